/- Texts for the law of the last part, part 11. -/
import Derived.Test.YtcfmdhlohahhcaaDoorBetweenP10
set_option linter.unusedSimpArgs false
set_option linter.unusedVariables false
set_option linter.unusedSimpArgs false
set_option linter.unusedVariables false
namespace Go.Proofs.YtcfmdhlohahhcaaDoor
open Go Go.Sx Nm
set_option maxRecDepth 100000
def TD0 : List (Nat × Sig) := (18, sChk) :: (17, sChk) :: TC
theorem TD0_ok : SigsOk Tryd.prog E0 TD0 := (TC_ok.cons (runs 17 (by kernel_rfl)) q17).cons (runs 18 (by kernel_rfl)) q18
def sNet : Sig := ⟨Fleet × Int, fun x => [fleetTV x.1, intC x.2], fun x => x.1.wf ∧ 0 ≤ x.2 ∧ x.2 < x.1.k, fun x => [.v (arrTV 10 (x.1.net x.2.toNat))]⟩
theorem q55 (x : sNet.α) (h : sNet.pre x) : CallQ Tryd.prog E0 55 (sNet.arg x) (sNet.res x) := by
  obtain ⟨x, k⟩ := x
  refine bare_tight E0_ok TD0 TD0_ok [] EvensOk.nil runs [] [] [] [] [] [] (fuel := 5) ?_
  refine of_red (q := (0 : Int) ≤ k ∧ k < (↑x.k : Int) ∧ True ∧ (((((((((True ∧ True ∧ x.net k.toNat 0 = x.net k.toNat 0) ∧ True ∧ x.net k.toNat 1 = x.net k.toNat 1) ∧ True ∧ x.net k.toNat 2 = x.net k.toNat 2) ∧ True ∧ x.net k.toNat 3 = x.net k.toNat 3) ∧ True ∧ x.net k.toNat 4 = x.net k.toNat 4) ∧ True ∧ x.net k.toNat 5 = x.net k.toNat 5) ∧ True ∧ x.net k.toNat 6 = x.net k.toNat 6) ∧ True ∧ x.net k.toNat 7 = x.net k.toNat 7) ∧ True ∧ x.net k.toNat 8 = x.net k.toNat 8) ∧ True ∧ x.net k.toNat 9 = x.net k.toNat 9) (by kernel_rfl) ?_
  simp only [true_and, and_true, inR, Prod.exists, Prod.forall, and_assoc, exists_and_left, exists_eq_left', exists_eq_left, forall_eq, exists_const, forall_const, loopN, loopM, fa2, fas, fas2, dup1, dup2, dup3, dup4, ite_true, exhs, exhn, exhz, exho, exs1, exn1, exz1, exo1, exs2, exn2, exz2, exo2, exs3, exn3, exz3, exo3, exs4, exn4, exz4, exo4, exs5, exn5, exz5, exo5, exs6, exn6, exz6, exo6, exs7, exn7, exz7, exo7, exs8, exn8, exz8, exo8, exs9, exn9, exz9, exo9, ex1, ex2, ex3, ex4, ex5, beqI, bneI, decide_true, Bool.true_and, decide_eq_true_eq, decide_eq_false_iff_not, ne_eq, Decidable.not_not]
  exact ⟨h.2.1, h.2.2⟩
def sLie : Sig := ⟨(Nat → Int) × Int, fun x => [arrTV 10 x.1, intC x.2], fun _ => True, fun x => [.v (.c (.bool (within x.2 (x.1 4) (x.1 5))))]⟩
theorem q56 (x : sLie.α) : CallQ Tryd.prog E0 56 (sLie.arg x) (sLie.res x) := by
  obtain ⟨m, h⟩ := x
  refine bare_tight E0_ok TD0 TD0_ok [] EvensOk.nil runs [] [] [] [] [] [] (fuel := 5) ?_
  refine of_red (q := ∃ (x : Int × Int × Int), ((True ∧ h = x.fst) ∧ (True ∧ m ((0 : Nat) + (nat_lit 3 + (1 : Nat))) = x.snd.fst) ∧ (True ∧ m ((0 : Nat) + (nat_lit 4 + (1 : Nat))) = x.snd.snd) ∧ True) ∧ True ∧ True ∧ within x.fst x.snd.fst x.snd.snd = within h (m (4 : Nat)) (m (5 : Nat))) (by kernel_rfl) ?_
  simp only [true_and, and_true, inR, Prod.exists, Prod.forall, and_assoc, exists_and_left, exists_eq_left', exists_eq_left, forall_eq, exists_const, forall_const, loopN, loopM, fa2, fas, fas2, dup1, dup2, dup3, dup4, ite_true, exhs, exhn, exhz, exho, exs1, exn1, exz1, exo1, exs2, exn2, exz2, exo2, exs3, exn3, exz3, exo3, exs4, exn4, exz4, exo4, exs5, exn5, exz5, exo5, exs6, exn6, exz6, exo6, exs7, exn7, exz7, exo7, exs8, exn8, exz8, exo8, exs9, exn9, exz9, exo9, ex1, ex2, ex3, ex4, ex5, beqI, bneI, decide_true, Bool.true_and, decide_eq_true_eq, decide_eq_false_iff_not, ne_eq, Decidable.not_not]
def sLong : Sig := ⟨(Nat → Int) × Int, fun x => [arrTV 10 x.1, intC x.2], fun _ => True, fun x => [.v (intC (if x.1 3 = x.2 then x.1 2 else 0))]⟩
theorem q121 (x : sLong.α) : CallQ Tryd.prog E0 121 (sLong.arg x) (sLong.res x) := by
  obtain ⟨m, h⟩ := x
  refine bare_tight E0_ok TD0 TD0_ok [] EvensOk.nil runs [] [] [] [] [] [] (fuel := 5) ?_
  refine of_red (q := ((m ((0 : Nat) + (nat_lit 2 + (1 : Nat))) == h) = true → True ∧ m ((0 : Nat) + (nat_lit 1 + (1 : Nat))) = if m (3 : Nat) = h then m (2 : Nat) else (0 : Int)) ∧ ((m ((0 : Nat) + (nat_lit 2 + (1 : Nat))) == h) = false → True ∧ (0 : Int) = if m (3 : Nat) = h then m (2 : Nat) else (0 : Int))) (by kernel_rfl) ?_
  simp only [true_and, and_true, inR, Prod.exists, Prod.forall, and_assoc, exists_and_left, exists_eq_left', exists_eq_left, forall_eq, exists_const, forall_const, loopN, loopM, fa2, fas, fas2, dup1, dup2, dup3, dup4, ite_true, exhs, exhn, exhz, exho, exs1, exn1, exz1, exo1, exs2, exn2, exz2, exo2, exs3, exn3, exz3, exo3, exs4, exn4, exz4, exo4, exs5, exn5, exz5, exo5, exs6, exn6, exz6, exo6, exs7, exn7, exz7, exo7, exs8, exn8, exz8, exo8, exs9, exn9, exz9, exo9, ex1, ex2, ex3, ex4, ex5, beqI, bneI, decide_true, Bool.true_and, decide_eq_true_eq, decide_eq_false_iff_not, ne_eq, Decidable.not_not]
  exact ⟨fun e => by rw [if_pos e], fun e => by rw [if_neg e]⟩
def sEnds : Sig := ⟨Int × Int, fun x => [intC x.1, .c (.vs 1 1 (fun _ _ => .int .i64 x.2))], fun _ => True, fun x => [.v (intC (imin x.1 x.2)), .v (intC (imax x.1 x.2))]⟩
def aEn (a b : Int) : Ann := { G := Nat, ok := fun _ i => i ≤ 1, dom := fun _ => [], tm := fun _ i => [(4, .t (intC (if i = 0 then a else imin a b))), (5, .t (intC (if i = 0 then a else imax a b))), (12, .t (intC i))], hp := fun _ _ => [], mu := fun _ i => 1 - i }
theorem q74 (x : sEnds.α) : CallQ Tryd.prog E0 74 (sEnds.arg x) (sEnds.res x) := by
  obtain ⟨a, b⟩ := x
  refine bare_tight E0_ok TD0 TD0_ok [] EvensOk.nil runs [(74, 3, aEn a b)] [] [] [] [] [] (fuel := 5) ?_
  refine of_red (q := (∃ (g : Nat), g ≤ (1 : Nat) ∧ True ∧ ((True ∧ a = if g = (0 : Nat) then a else imin a b) ∧ (True ∧ a = if g = (0 : Nat) then a else imax a b) ∧ (True ∧ (0 : Int) = (↑g : Int)) ∧ True) ∧ True) ∧ ∀ (g : Nat), g ≤ (1 : Nat) → (decide ((↑g : Int) < (↑(1 : Nat) : Int)) = true → (0 : Int) ≤ (↑g : Int) ∧ (↑g : Int) < (↑(1 : Nat) : Int) ∧ inRange IntKind.i64 ((↑g : Int) + (1 : Int)) ∧ ∃ (g' : Nat), g' ≤ (1 : Nat) ∧ (1 : Nat) - g' < (1 : Nat) - g ∧ True ∧ ((True ∧ imin (if g = (0 : Nat) then a else imin a b) b = if g' = (0 : Nat) then a else imin a b) ∧ (True ∧ imax (if g = (0 : Nat) then a else imax a b) b = if g' = (0 : Nat) then a else imax a b) ∧ (True ∧ (↑g : Int) + (1 : Int) = (↑g' : Int)) ∧ True) ∧ True) ∧ (decide ((↑g : Int) < (↑(1 : Nat) : Int)) = false → (True ∧ (if g = (0 : Nat) then a else imin a b) = imin a b) ∧ (True ∧ (if g = (0 : Nat) then a else imax a b) = imax a b) ∧ True)) (by kernel_rfl) ?_
  simp only [true_and, and_true, inR, Prod.exists, Prod.forall, and_assoc, exists_and_left, exists_eq_left', exists_eq_left, forall_eq, exists_const, forall_const, loopN, loopM, fa2, fas, fas2, dup1, dup2, dup3, dup4, ite_true, exhs, exhn, exhz, exho, exs1, exn1, exz1, exo1, exs2, exn2, exz2, exo2, exs3, exn3, exz3, exo3, exs4, exn4, exz4, exo4, exs5, exn5, exz5, exo5, exs6, exn6, exz6, exo6, exs7, exn7, exz7, exo7, exs8, exn8, exz8, exo8, exs9, exn9, exz9, exo9, ex1, ex2, ex3, ex4, ex5, beqI, bneI, decide_true, Bool.true_and, decide_eq_true_eq, decide_eq_false_iff_not, ne_eq, Decidable.not_not]
  refine ⟨by omega, fun g hg => ?_, rfl, rfl⟩
  obtain rfl : g = 0 := by omega
  exact ⟨by omega, by omega, by omega, by omega, by omega, by omega, rfl, rfl⟩
def TD1 : List (Nat × Sig) := (74, sEnds) :: (121, sLong) :: (56, sLie) :: (55, sNet) :: TD0
theorem TD1_ok : SigsOk Tryd.prog E0 TD1 := (((TD0_ok.cons (runs 55 (by kernel_rfl)) q55).cons (runs 56 (by kernel_rfl)) fun x _ => q56 x).cons (runs 121 (by kernel_rfl)) fun x _ => q121 x).cons (runs 74 (by kernel_rfl)) fun x _ => q74 x
def sFar : Sig := ⟨(Int × Int) × (Int × Int) × Int, fun x => [spanTV x.1.1 x.1.2, spanTV x.2.1.1 x.2.1.2, intC x.2.2], fun x => sm x.1.1 ∧ sm x.1.2 ∧ sm x.2.1.1 ∧ sm x.2.1.2 ∧ sm x.2.2 ∧ x.2.1.1 ≤ x.2.1.2, fun x => [.v (spanTV (x.1.1 + tLo x.2.1.1 x.2.1.2 x.2.2) (x.1.2 + tHi x.2.1.1 x.2.1.2 x.2.2))]⟩
theorem q97 (x : sFar.α) (h : sFar.pre x) : CallQ Tryd.prog E0 97 (sFar.arg x) (sFar.res x) := by
  obtain ⟨⟨a, b⟩, ⟨l, u⟩, n⟩ := x
  refine bare_tight E0_ok TD1 TD1_ok [] EvensOk.nil runs [] [] [] [] [] [] (fuel := 5) ?_
  refine of_red (q := inRange IntKind.i64 (l * n) ∧ inRange IntKind.i64 (u * n) ∧ ∃ (x : Int × Int), ((True ∧ l * n = x.fst) ∧ (True ∧ True ∧ (1 : Nat) = (1 : Nat) ∧ ∀ (i : Nat), i < (1 : Nat) → True ∧ (if i = (0 : Nat) then u * n else (0 : Int)) = x.snd) ∧ True) ∧ True ∧ inRange IntKind.i64 (a + imin x.fst x.snd) ∧ inRange IntKind.i64 (b + imax x.fst x.snd) ∧ True ∧ (True ∧ True ∧ a + imin x.fst x.snd = (a, b).fst + tLo ((l, u), n).fst.fst ((l, u), n).fst.snd ((l, u), n).snd) ∧ True ∧ b + imax x.fst x.snd = (a, b).snd + tHi ((l, u), n).fst.fst ((l, u), n).fst.snd ((l, u), n).snd) (by kernel_rfl) ?_
  simp only [true_and, and_true, inR, Prod.exists, Prod.forall, and_assoc, exists_and_left, exists_eq_left', exists_eq_left, forall_eq, exists_const, forall_const, loopN, loopM, fa2, fas, fas2, dup1, dup2, dup3, dup4, ite_true, exhs, exhn, exhz, exho, exs1, exn1, exz1, exo1, exs2, exn2, exz2, exo2, exs3, exn3, exz3, exo3, exs4, exn4, exz4, exo4, exs5, exn5, exz5, exo5, exs6, exn6, exz6, exo6, exs7, exn7, exz7, exo7, exs8, exn8, exz8, exo8, exs9, exn9, exz9, exo9, ex1, ex2, ex3, ex4, ex5, beqI, bneI, decide_true, Bool.true_and, decide_eq_true_eq, decide_eq_false_iff_not, ne_eq, Decidable.not_not]
  obtain ⟨h1, h2, h3, h4, h5, h6⟩ := (show sm a ∧ sm b ∧ sm l ∧ sm u ∧ sm n ∧ l ≤ u from h)
  have b1 := sm_mul h3 h5
  have b2 := sm_mul h4 h5
  obtain ⟨e1, e2⟩ := t_min (n := n) h6
  have b3 : -1000000000000000000 ≤ tLo l u n ∧ tLo l u n ≤ 1000000000000000000 := by unfold tLo; split <;> assumption
  have b4 : -1000000000000000000 ≤ tHi l u n ∧ tHi l u n ≤ 1000000000000000000 := by unfold tHi; split <;> assumption
  obtain ⟨c1, c2⟩ := h1
  obtain ⟨c3, c4⟩ := h2
  obtain ⟨c5, c6⟩ := b1
  obtain ⟨c7, c8⟩ := b2
  obtain ⟨c9, d1⟩ := b3
  obtain ⟨d2, d3⟩ := b4
  have c1 : -1000000000 ≤ a := c1
  have c2 : a ≤ 1000000000 := c2
  have c3 : -1000000000 ≤ b := c3
  have c4 : b ≤ 1000000000 := c4
  have c5 : -1000000000000000000 ≤ l * n := c5
  have c6 : l * n ≤ 1000000000000000000 := c6
  have c7 : -1000000000000000000 ≤ u * n := c7
  have c8 : u * n ≤ 1000000000000000000 := c8
  refine ⟨by omega, by omega, by omega, by omega, u * n, fun i hi => by rw [if_pos (by omega)], ?_⟩
  rw [e1, e2]
  exact ⟨by omega, by omega, by omega, by omega, rfl, rfl⟩
def sPlus : Sig := ⟨(Int × Int) × Int × Int, fun x => [spanTV x.1.1 x.1.2, spanTV x.2.1 x.2.2], fun x => inR64 (x.1.1 + x.2.1) ∧ inR64 (x.1.2 + x.2.2), fun x => [.v (spanTV (x.1.1 + x.2.1) (x.1.2 + x.2.2))]⟩
theorem q101 (x : sPlus.α) (h : sPlus.pre x) : CallQ Tryd.prog E0 101 (sPlus.arg x) (sPlus.res x) := by
  obtain ⟨⟨a, b⟩, c, d⟩ := x
  refine bare_tight E0_ok TD1 TD1_ok [] EvensOk.nil runs [] [] [] [] [] [] (fuel := 5) ?_
  refine of_red (q := inRange IntKind.i64 (a + c) ∧ inRange IntKind.i64 (b + d) ∧ True ∧ (True ∧ True ∧ a + c = (a, b).fst + (c, d).fst) ∧ True ∧ b + d = (a, b).snd + (c, d).snd) (by kernel_rfl) ?_
  simp only [true_and, and_true, inR, Prod.exists, Prod.forall, and_assoc, exists_and_left, exists_eq_left', exists_eq_left, forall_eq, exists_const, forall_const, loopN, loopM, fa2, fas, fas2, dup1, dup2, dup3, dup4, ite_true, exhs, exhn, exhz, exho, exs1, exn1, exz1, exo1, exs2, exn2, exz2, exo2, exs3, exn3, exz3, exo3, exs4, exn4, exz4, exo4, exs5, exn5, exz5, exo5, exs6, exn6, exz6, exo6, exs7, exn7, exz7, exo7, exs8, exn8, exz8, exo8, exs9, exn9, exz9, exo9, ex1, ex2, ex3, ex4, ex5, beqI, bneI, decide_true, Bool.true_and, decide_eq_true_eq, decide_eq_false_iff_not, ne_eq, Decidable.not_not]
  exact ⟨h.1.1, h.1.2, h.2.1, h.2.2⟩
def sTimes : Sig := ⟨(Int × Int) × Int, fun x => [spanTV x.1.1 x.1.2, intC x.2], fun x => sm x.1.1 ∧ sm x.1.2 ∧ sm x.2, fun x => [.v (spanTV (tLo x.1.1 x.1.2 x.2) (tHi x.1.1 x.1.2 x.2))]⟩
theorem q102 (x : sTimes.α) (h : sTimes.pre x) : CallQ Tryd.prog E0 102 (sTimes.arg x) (sTimes.res x) := by
  obtain ⟨⟨l, u⟩, n⟩ := x
  refine bare_tight E0_ok TD1 TD1_ok [] EvensOk.nil runs [] [] [] [] [] [] (fuel := 5) ?_
  refine of_red (q := (decide (n < (0 : Int)) = true → inRange IntKind.i64 (u * n) ∧ inRange IntKind.i64 (l * n) ∧ True ∧ (True ∧ True ∧ u * n = tLo (l, u).fst (l, u).snd n) ∧ True ∧ l * n = tHi (l, u).fst (l, u).snd n) ∧ (decide (n < (0 : Int)) = false → inRange IntKind.i64 (l * n) ∧ inRange IntKind.i64 (u * n) ∧ True ∧ (True ∧ True ∧ l * n = tLo (l, u).fst (l, u).snd n) ∧ True ∧ u * n = tHi (l, u).fst (l, u).snd n)) (by kernel_rfl) ?_
  simp only [true_and, and_true, inR, Prod.exists, Prod.forall, and_assoc, exists_and_left, exists_eq_left', exists_eq_left, forall_eq, exists_const, forall_const, loopN, loopM, fa2, fas, fas2, dup1, dup2, dup3, dup4, ite_true, exhs, exhn, exhz, exho, exs1, exn1, exz1, exo1, exs2, exn2, exz2, exo2, exs3, exn3, exz3, exo3, exs4, exn4, exz4, exo4, exs5, exn5, exz5, exo5, exs6, exn6, exz6, exo6, exs7, exn7, exz7, exo7, exs8, exn8, exz8, exo8, exs9, exn9, exz9, exo9, ex1, ex2, ex3, ex4, ex5, beqI, bneI, decide_true, Bool.true_and, decide_eq_true_eq, decide_eq_false_iff_not, ne_eq, Decidable.not_not]
  obtain ⟨h1, h2, h3⟩ := h
  obtain ⟨c1, c2⟩ := sm_mul h1 h3
  obtain ⟨c3, c4⟩ := sm_mul h2 h3
  have c1 : -1000000000000000000 ≤ l * n := c1
  have c2 : l * n ≤ 1000000000000000000 := c2
  have c3 : -1000000000000000000 ≤ u * n := c3
  have c4 : u * n ≤ 1000000000000000000 := c4
  unfold tLo tHi
  exact ⟨fun e => by rw [if_pos e, if_pos e]; exact ⟨by omega, by omega, by omega, by omega, rfl, rfl⟩, fun e => by rw [if_neg e, if_neg e]; exact ⟨by omega, by omega, by omega, by omega, rfl, rfl⟩⟩
end Go.Proofs.YtcfmdhlohahhcaaDoor
set_option linter.unusedSimpArgs false
set_option linter.unusedVariables false
namespace Go.Proofs.YtcfmdhlohahhcaaDoor
open Go Go.Sx Nm
set_option maxRecDepth 100000
def TE0 : List (Nat × Sig) := (102, sTimes) :: (101, sPlus) :: (97, sFar) :: TD1
theorem TE0_ok : SigsOk Tryd.prog E0 TE0 := ((TD1_ok.cons (runs 97 (by kernel_rfl)) q97).cons (runs 101 (by kernel_rfl)) q101).cons (runs 102 (by kernel_rfl)) q102
def sAt (s : Nat) : Sig := ⟨Nat → Int, fun m => [arrTV 10 m], fun _ => True, fun m => [.v (intC (m s))]⟩
theorem q119 (m : Nat → Int) : CallQ Tryd.prog E0 119 ((sAt 0).arg m) ((sAt 0).res m) := by
  refine bare_tight E0_ok TE0 TE0_ok [] EvensOk.nil runs [] [] [] [] [] [] (fuel := 5) ?_
  refine of_red (q := True ∧ m (0 : Nat) = m (0 : Nat)) (by kernel_rfl) ?_
  simp only [true_and, and_true, inR, Prod.exists, Prod.forall, and_assoc, exists_and_left, exists_eq_left', exists_eq_left, forall_eq, exists_const, forall_const, loopN, loopM, fa2, fas, fas2, dup1, dup2, dup3, dup4, ite_true, exhs, exhn, exhz, exho, exs1, exn1, exz1, exo1, exs2, exn2, exz2, exo2, exs3, exn3, exz3, exo3, exs4, exn4, exz4, exo4, exs5, exn5, exz5, exo5, exs6, exn6, exz6, exo6, exs7, exn7, exz7, exo7, exs8, exn8, exz8, exo8, exs9, exn9, exz9, exo9, ex1, ex2, ex3, ex4, ex5, beqI, bneI, decide_true, Bool.true_and, decide_eq_true_eq, decide_eq_false_iff_not, ne_eq, Decidable.not_not]
theorem q124 (m : Nat → Int) : CallQ Tryd.prog E0 124 ((sAt 1).arg m) ((sAt 1).res m) := by
  refine bare_tight E0_ok TE0 TE0_ok [] EvensOk.nil runs [] [] [] [] [] [] (fuel := 5) ?_
  refine of_red (q := True ∧ m ((0 : Nat) + (nat_lit 0 + (1 : Nat))) = m (1 : Nat)) (by kernel_rfl) ?_
  simp only [true_and, and_true, inR, Prod.exists, Prod.forall, and_assoc, exists_and_left, exists_eq_left', exists_eq_left, forall_eq, exists_const, forall_const, loopN, loopM, fa2, fas, fas2, dup1, dup2, dup3, dup4, ite_true, exhs, exhn, exhz, exho, exs1, exn1, exz1, exo1, exs2, exn2, exz2, exo2, exs3, exn3, exz3, exo3, exs4, exn4, exz4, exo4, exs5, exn5, exz5, exo5, exs6, exn6, exz6, exo6, exs7, exn7, exz7, exo7, exs8, exn8, exz8, exo8, exs9, exn9, exz9, exo9, ex1, ex2, ex3, ex4, ex5, beqI, bneI, decide_true, Bool.true_and, decide_eq_true_eq, decide_eq_false_iff_not, ne_eq, Decidable.not_not]
def sLg (s : Int) : Sig := ⟨Nat → Int, fun m => [arrTV 10 m], fun _ => True, fun m => [.v (intC (if m 3 = s then m 2 else 0))]⟩
theorem q120 (m : Nat → Int) : CallQ Tryd.prog E0 120 ((sLg 0).arg m) ((sLg 0).res m) := by
  refine bare_tight E0_ok TE0 TE0_ok [] EvensOk.nil runs [] [] [] [] [] [] (fuel := 5) ?_
  refine of_red (q := ∃ (x : (Nat → Int) × Int), ((True ∧ (((((((((True ∧ True ∧ m 0 = x.fst 0) ∧ True ∧ m 1 = x.fst 1) ∧ True ∧ m 2 = x.fst 2) ∧ True ∧ m 3 = x.fst 3) ∧ True ∧ m 4 = x.fst 4) ∧ True ∧ m 5 = x.fst 5) ∧ True ∧ m 6 = x.fst 6) ∧ True ∧ m 7 = x.fst 7) ∧ True ∧ m 8 = x.fst 8) ∧ True ∧ m 9 = x.fst 9) ∧ (True ∧ (0 : Int) = x.snd) ∧ True) ∧ True ∧ True ∧ (if x.fst (3 : Nat) = x.snd then x.fst (2 : Nat) else (0 : Int)) = if m (3 : Nat) = (0 : Int) then m (2 : Nat) else (0 : Int)) (by kernel_rfl) ?_
  simp only [true_and, and_true, inR, Prod.exists, Prod.forall, and_assoc, exists_and_left, exists_eq_left', exists_eq_left, forall_eq, exists_const, forall_const, loopN, loopM, fa2, fas, fas2, dup1, dup2, dup3, dup4, ite_true, exhs, exhn, exhz, exho, exs1, exn1, exz1, exo1, exs2, exn2, exz2, exo2, exs3, exn3, exz3, exo3, exs4, exn4, exz4, exo4, exs5, exn5, exz5, exo5, exs6, exn6, exz6, exo6, exs7, exn7, exz7, exo7, exs8, exn8, exz8, exo8, exs9, exn9, exz9, exo9, ex1, ex2, ex3, ex4, ex5, beqI, bneI, decide_true, Bool.true_and, decide_eq_true_eq, decide_eq_false_iff_not, ne_eq, Decidable.not_not]
  try exact ⟨m, rfl, rfl, rfl, rfl, rfl, rfl, rfl, rfl, rfl, rfl, rfl⟩
theorem q125 (m : Nat → Int) : CallQ Tryd.prog E0 125 ((sLg 1).arg m) ((sLg 1).res m) := by
  refine bare_tight E0_ok TE0 TE0_ok [] EvensOk.nil runs [] [] [] [] [] [] (fuel := 5) ?_
  refine of_red (q := ∃ (x : (Nat → Int) × Int), ((True ∧ (((((((((True ∧ True ∧ m 0 = x.fst 0) ∧ True ∧ m 1 = x.fst 1) ∧ True ∧ m 2 = x.fst 2) ∧ True ∧ m 3 = x.fst 3) ∧ True ∧ m 4 = x.fst 4) ∧ True ∧ m 5 = x.fst 5) ∧ True ∧ m 6 = x.fst 6) ∧ True ∧ m 7 = x.fst 7) ∧ True ∧ m 8 = x.fst 8) ∧ True ∧ m 9 = x.fst 9) ∧ (True ∧ (1 : Int) = x.snd) ∧ True) ∧ True ∧ True ∧ (if x.fst (3 : Nat) = x.snd then x.fst (2 : Nat) else (0 : Int)) = if m (3 : Nat) = (1 : Int) then m (2 : Nat) else (0 : Int)) (by kernel_rfl) ?_
  simp only [true_and, and_true, inR, Prod.exists, Prod.forall, and_assoc, exists_and_left, exists_eq_left', exists_eq_left, forall_eq, exists_const, forall_const, loopN, loopM, fa2, fas, fas2, dup1, dup2, dup3, dup4, ite_true, exhs, exhn, exhz, exho, exs1, exn1, exz1, exo1, exs2, exn2, exz2, exo2, exs3, exn3, exz3, exo3, exs4, exn4, exz4, exo4, exs5, exn5, exz5, exo5, exs6, exn6, exz6, exo6, exs7, exn7, exz7, exo7, exs8, exn8, exz8, exo8, exs9, exn9, exz9, exo9, ex1, ex2, ex3, ex4, ex5, beqI, bneI, decide_true, Bool.true_and, decide_eq_true_eq, decide_eq_false_iff_not, ne_eq, Decidable.not_not]
  try exact ⟨m, rfl, rfl, rfl, rfl, rfl, rfl, rfl, rfl, rfl, rfl, rfl⟩
def sSl (j : Nat) : Sig := ⟨Nat → Int, fun m => [arrTV 10 m], fun _ => True, fun m => [.v (spanTV (m j) (m (j + 1)))]⟩
theorem q122 (m : Nat → Int) : CallQ Tryd.prog E0 122 ((sSl 6).arg m) ((sSl 6).res m) := by
  refine bare_tight E0_ok TE0 TE0_ok [] EvensOk.nil runs [] [] [] [] [] [] (fuel := 5) ?_
  refine of_red (q := True ∧ (True ∧ True ∧ m (nat_lit 0 + (nat_lit 5 + (1 : Nat))) = m (6 : Nat)) ∧ True ∧ m (nat_lit 1 + (nat_lit 5 + (1 : Nat))) = m ((6 : Nat) + (1 : Nat))) (by kernel_rfl) ?_
  simp only [true_and, and_true, inR, Prod.exists, Prod.forall, and_assoc, exists_and_left, exists_eq_left', exists_eq_left, forall_eq, exists_const, forall_const, loopN, loopM, fa2, fas, fas2, dup1, dup2, dup3, dup4, ite_true, exhs, exhn, exhz, exho, exs1, exn1, exz1, exo1, exs2, exn2, exz2, exo2, exs3, exn3, exz3, exo3, exs4, exn4, exz4, exo4, exs5, exn5, exz5, exo5, exs6, exn6, exz6, exo6, exs7, exn7, exz7, exo7, exs8, exn8, exz8, exo8, exs9, exn9, exz9, exo9, ex1, ex2, ex3, ex4, ex5, beqI, bneI, decide_true, Bool.true_and, decide_eq_true_eq, decide_eq_false_iff_not, ne_eq, Decidable.not_not]
theorem q126 (m : Nat → Int) : CallQ Tryd.prog E0 126 ((sSl 8).arg m) ((sSl 8).res m) := by
  refine bare_tight E0_ok TE0 TE0_ok [] EvensOk.nil runs [] [] [] [] [] [] (fuel := 5) ?_
  refine of_red (q := True ∧ (True ∧ True ∧ m (nat_lit 0 + (nat_lit 7 + (1 : Nat))) = m (8 : Nat)) ∧ True ∧ m (nat_lit 1 + (nat_lit 7 + (1 : Nat))) = m ((8 : Nat) + (1 : Nat))) (by kernel_rfl) ?_
  simp only [true_and, and_true, inR, Prod.exists, Prod.forall, and_assoc, exists_and_left, exists_eq_left', exists_eq_left, forall_eq, exists_const, forall_const, loopN, loopM, fa2, fas, fas2, dup1, dup2, dup3, dup4, ite_true, exhs, exhn, exhz, exho, exs1, exn1, exz1, exo1, exs2, exn2, exz2, exo2, exs3, exn3, exz3, exo3, exs4, exn4, exz4, exo4, exs5, exn5, exz5, exo5, exs6, exn6, exz6, exo6, exs7, exn7, exz7, exo7, exs8, exn8, exz8, exo8, exs9, exn9, exz9, exo9, ex1, ex2, ex3, ex4, ex5, beqI, bneI, decide_true, Bool.true_and, decide_eq_true_eq, decide_eq_false_iff_not, ne_eq, Decidable.not_not]
def spansCV (n : Nat) (f : Nat → Nat → Int) : CV := .vs 2 n (fun i j => .int .i64 (f i j))
def sTdE : Sig := ⟨Fleet, fun x => [fleetTV x], fun x => x.wf, fun x => [.v (.c (spansCV x.hE x.e))]⟩
theorem q123 (x : Fleet) (h : x.wf) : CallQ Tryd.prog E0 123 (sTdE.arg x) (sTdE.res x) := by
  refine bare_tight E0_ok TE0 TE0_ok [] EvensOk.nil runs [] [] [] [] [] [] (fuel := 5) ?_
  refine of_red (q := True ∧ True ∧ x.hE = x.hE ∧ ∀ (i : Nat), i < x.hE → (True ∧ x.e i 0 = x.e i 0) ∧ x.e i 1 = x.e i 1) (by kernel_rfl) ?_
  simp only [true_and, and_true, inR, Prod.exists, Prod.forall, and_assoc, exists_and_left, exists_eq_left', exists_eq_left, forall_eq, exists_const, forall_const, loopN, loopM, fa2, fas, fas2, dup1, dup2, dup3, dup4, ite_true, exhs, exhn, exhz, exho, exs1, exn1, exz1, exo1, exs2, exn2, exz2, exo2, exs3, exn3, exz3, exo3, exs4, exn4, exz4, exo4, exs5, exn5, exz5, exo5, exs6, exn6, exz6, exo6, exs7, exn7, exz7, exo7, exs8, exn8, exz8, exo8, exs9, exn9, exz9, exo9, ex1, ex2, ex3, ex4, ex5, beqI, bneI, decide_true, Bool.true_and, decide_eq_true_eq, decide_eq_false_iff_not, ne_eq, Decidable.not_not]
  exact fun _ _ => trivial
def sTdN : Sig := ⟨Fleet, fun x => [fleetTV x], fun x => x.wf, fun x => [.v (.c (spansCV x.hN x.n))]⟩
theorem q127 (x : Fleet) (h : x.wf) : CallQ Tryd.prog E0 127 (sTdN.arg x) (sTdN.res x) := by
  refine bare_tight E0_ok TE0 TE0_ok [] EvensOk.nil runs [] [] [] [] [] [] (fuel := 5) ?_
  refine of_red (q := True ∧ True ∧ x.hN = x.hN ∧ ∀ (i : Nat), i < x.hN → (True ∧ x.n i 0 = x.n i 0) ∧ x.n i 1 = x.n i 1) (by kernel_rfl) ?_
  simp only [true_and, and_true, inR, Prod.exists, Prod.forall, and_assoc, exists_and_left, exists_eq_left', exists_eq_left, forall_eq, exists_const, forall_const, loopN, loopM, fa2, fas, fas2, dup1, dup2, dup3, dup4, ite_true, exhs, exhn, exhz, exho, exs1, exn1, exz1, exo1, exs2, exn2, exz2, exo2, exs3, exn3, exz3, exo3, exs4, exn4, exz4, exo4, exs5, exn5, exz5, exo5, exs6, exn6, exz6, exo6, exs7, exn7, exz7, exo7, exs8, exn8, exz8, exo8, exs9, exn9, exz9, exo9, ex1, ex2, ex3, ex4, ex5, beqI, bneI, decide_true, Bool.true_and, decide_eq_true_eq, decide_eq_false_iff_not, ne_eq, Decidable.not_not]
  exact fun _ _ => trivial
end Go.Proofs.YtcfmdhlohahhcaaDoor
set_option linter.unusedSimpArgs false
set_option linter.unusedVariables false
namespace Nm
open Go Go.Sx
def sumN (g : Nat → Int) : Nat → Int
  | 0 => 0
  | n + 1 => sumN g n + g n
theorem sumN_bd {g : Nat → Int} {c : Int} {n : Nat} (h : ∀ j, j < n → -c ≤ g j ∧ g j ≤ c) : -(c * n) ≤ sumN g n ∧ sumN g n ≤ c * n := by
  induction n with
  | zero => simp [sumN]
  | succ n ih =>
    have h1 := ih (fun j hj => h j (by omega))
    have h2 := h n (by omega)
    have e : c * ((n + 1 : Nat) : Int) = c * n + c := by rw [Int.natCast_add, Int.mul_add]; simp
    rw [e]
    unfold sumN
    omega
def dLo (f : Nat → Nat → Int) (a : Int) (t : Int) (n : Nat) : Int := sumN (fun j => tLo (f (a.toNat + j) 0) (f (a.toNat + j) 1) t) n
def dHi (f : Nat → Nat → Int) (a : Int) (t : Int) (n : Nat) : Int := sumN (fun j => tHi (f (a.toNat + j) 0) (f (a.toNat + j) 1) t) n
def bLo (x : Fleet) (f : Nat → Nat → Int) (p : Nat) (i k : Nat) : Int := x.net i p - x.net k p + dLo f (x.net i 4) 1 (x.net k 4 - x.net i 4).toNat
def bHi (x : Fleet) (f : Nat → Nat → Int) (p : Nat) (i k : Nat) : Int := x.net i p - x.net k p + dHi f (x.net i 4) 1 (x.net k 4 - x.net i 4).toNat
def cLo (x : Fleet) (f : Nat → Nat → Int) (p : Nat) (i k : Nat) : Int := bLo x f p i k + dLo f (x.net k 4) (-1) (x.net i 4 - x.net k 4).toNat
def cHi (x : Fleet) (f : Nat → Nat → Int) (p : Nat) (i k : Nat) : Int := bHi x f p i k + dHi f (x.net k 4) (-1) (x.net i 4 - x.net k 4).toNat
def apLo (x : Fleet) (f : Nat → Nat → Int) (p s : Nat) (i k : Nat) (h : Int) : Int := cLo x f p i k + tLo (x.net i s) (x.net i (s + 1)) (h - x.net i 4) + tLo (x.net k s) (x.net k (s + 1)) (x.net k 4 - h)
def apHi (x : Fleet) (f : Nat → Nat → Int) (p s : Nat) (i k : Nat) (h : Int) : Int := cHi x f p i k + tHi (x.net i s) (x.net i (s + 1)) (h - x.net i 4) + tHi (x.net k s) (x.net k (s + 1)) (x.net k 4 - h)
end Nm
namespace Nm
open Go Go.Sx
theorem chk_parts {x : Fleet} (h : Nm.chk x = true) : chk0 x = true ∧ (∀ j, j < x.hE → hourOk x j = true) ∧ ∀ i, i < x.k → netOk x.hE (x.net i) = true := by
  unfold Nm.chk at h
  rw [Bool.and_eq_true, Bool.and_eq_true, allB_iff, allB_iff] at h
  exact ⟨h.1.1, h.1.2, h.2⟩
theorem chk_size {x : Fleet} (h : Nm.chk x = true) : 1 ≤ x.hE ∧ x.hE ≤ 24 ∧ x.hN = x.hE ∧ 0 ≤ x.gap ∧ x.gap ≤ 500 ∧ 1 ≤ x.k ∧ x.k ≤ 6 := by
  have := (chk_parts h).1
  simp only [chk0, Bool.and_eq_true, decide_eq_true_eq, within_iff] at this
  omega
theorem chk_hour {x : Fleet} (h : Nm.chk x = true) {j : Nat} (hj : j < x.hE) : (-200 ≤ x.e j 0 ∧ x.e j 0 ≤ x.e j 1 ∧ x.e j 1 ≤ 200) ∧ -200 ≤ x.n j 0 ∧ x.n j 0 ≤ x.n j 1 ∧ x.n j 1 ≤ 200 := by
  have := (chk_parts h).2.1 j hj
  simp only [hourOk, spanned, Bool.and_eq_true, decide_eq_true_eq] at this
  omega
theorem chk_net {x : Fleet} (h : Nm.chk x = true) {i : Nat} (hi : i < x.k) : (-10000 ≤ x.net i 0 ∧ x.net i 0 ≤ 10000) ∧ (-10000 ≤ x.net i 1 ∧ x.net i 1 ≤ 10000) ∧ (0 ≤ x.net i 2 ∧ x.net i 2 ≤ 2000) ∧ (0 ≤ x.net i 3 ∧ x.net i 3 ≤ 1) ∧ (0 ≤ x.net i 4 ∧ x.net i 4 ≤ (x.hE : Int) - 1) ∧ (x.net i 4 ≤ x.net i 5 ∧ x.net i 5 ≤ x.hE) ∧ (-50 ≤ x.net i 6 ∧ x.net i 6 ≤ x.net i 7 ∧ x.net i 7 ≤ 50) ∧ -50 ≤ x.net i 8 ∧ x.net i 8 ≤ x.net i 9 ∧ x.net i 9 ≤ 50 := by
  have := (chk_parts h).2.2 i hi
  simp only [netOk, net1, net2, net3, spanned, Bool.and_eq_true, decide_eq_true_eq, within_iff] at this
  omega
theorem d_bd {f : Nat → Nat → Int} {H : Nat} (hf : ∀ j, j < H → -200 ≤ f j 0 ∧ f j 0 ≤ f j 1 ∧ f j 1 ≤ 200) {a t : Int} {n : Nat} (ht : t = 1 ∨ t = -1) (ha : a.toNat + n ≤ H) (hn : n ≤ 24) :
    (-4800 ≤ dLo f a t n ∧ dLo f a t n ≤ 4800) ∧ -4800 ≤ dHi f a t n ∧ dHi f a t n ≤ 4800 := by
  have h1 := sumN_bd (g := fun j => tLo (f (a.toNat + j) 0) (f (a.toNat + j) 1) t) (c := 200) (n := n) (fun j hj => by
    have := hf (a.toNat + j) (by omega)
    show -200 ≤ tLo (f (a.toNat + j) 0) (f (a.toNat + j) 1) t ∧ tLo (f (a.toNat + j) 0) (f (a.toNat + j) 1) t ≤ 200
    unfold tLo
    rcases ht with rfl | rfl <;> simp <;> omega)
  have h2 := sumN_bd (g := fun j => tHi (f (a.toNat + j) 0) (f (a.toNat + j) 1) t) (c := 200) (n := n) (fun j hj => by
    have := hf (a.toNat + j) (by omega)
    show -200 ≤ tHi (f (a.toNat + j) 0) (f (a.toNat + j) 1) t ∧ tHi (f (a.toNat + j) 0) (f (a.toNat + j) 1) t ≤ 200
    unfold tHi
    rcases ht with rfl | rfl <;> simp <;> omega)
  have e1 : sumN (fun j => tLo (f (a.toNat + j) 0) (f (a.toNat + j) 1) t) n = dLo f a t n := rfl
  have e2 : sumN (fun j => tHi (f (a.toNat + j) 0) (f (a.toNat + j) 1) t) n = dHi f a t n := rfl
  rw [e1] at h1
  rw [e2] at h2
  omega
theorem t_bd {l h n : Int} (h1 : -50 ≤ l) (h2 : l ≤ h) (h3 : h ≤ 50) (n1 : -24 ≤ n) (n2 : n ≤ 24) : (-1200 ≤ tLo l h n ∧ tLo l h n ≤ 1200) ∧ -1200 ≤ tHi l h n ∧ tHi l h n ≤ 1200 := by
  have m : ∀ {a : Int}, -50 ≤ a → a ≤ 50 → -1200 ≤ a * n ∧ a * n ≤ 1200 := fun {a} a1 a2 => by
    have q : a.natAbs * n.natAbs ≤ 50 * 24 := Nat.mul_le_mul (by omega) (by omega)
    rw [← Int.natAbs_mul] at q
    omega
  have m1 := m (a := l) h1 (by omega)
  have m2 := m (a := h) (by omega) h3
  unfold tLo tHi
  split <;> omega
structure ChkW (x : Fleet) : Prop where
  size : 1 ≤ x.hE ∧ x.hE ≤ 24 ∧ x.hN = x.hE ∧ 0 ≤ x.gap ∧ x.gap ≤ 500 ∧ 1 ≤ x.k ∧ x.k ≤ 6
  hour : ∀ j, j < x.hE → (-200 ≤ x.e j 0 ∧ x.e j 0 ≤ x.e j 1 ∧ x.e j 1 ≤ 200) ∧ -200 ≤ x.n j 0 ∧ x.n j 0 ≤ x.n j 1 ∧ x.n j 1 ≤ 200
  net : ∀ i, i < x.k → (-20000 ≤ x.net i 0 ∧ x.net i 0 ≤ 20000) ∧ (-20000 ≤ x.net i 1 ∧ x.net i 1 ≤ 20000) ∧ (0 ≤ x.net i 2 ∧ x.net i 2 ≤ 2000) ∧ (0 ≤ x.net i 3 ∧ x.net i 3 ≤ 1) ∧ (0 ≤ x.net i 4 ∧ x.net i 4 ≤ (x.hE : Int) - 1) ∧ (x.net i 4 ≤ x.net i 5 ∧ x.net i 5 ≤ x.hE) ∧ (-50 ≤ x.net i 6 ∧ x.net i 6 ≤ x.net i 7 ∧ x.net i 7 ≤ 50) ∧ -50 ≤ x.net i 8 ∧ x.net i 8 ≤ x.net i 9 ∧ x.net i 9 ≤ 50
theorem chkW_of {x : Fleet} (h : Nm.chk x = true) : ChkW x :=
  ⟨chk_size h, fun j hj => chk_hour h hj, fun i hi => by have := chk_net h hi; omega⟩
theorem chkW_size {x : Fleet} (h : ChkW x) : 1 ≤ x.hE ∧ x.hE ≤ 24 ∧ x.hN = x.hE ∧ 0 ≤ x.gap ∧ x.gap ≤ 500 ∧ 1 ≤ x.k ∧ x.k ≤ 6 := h.size
theorem chkW_hour {x : Fleet} (h : ChkW x) {j : Nat} (hj : j < x.hE) : (-200 ≤ x.e j 0 ∧ x.e j 0 ≤ x.e j 1 ∧ x.e j 1 ≤ 200) ∧ -200 ≤ x.n j 0 ∧ x.n j 0 ≤ x.n j 1 ∧ x.n j 1 ≤ 200 := h.hour j hj
theorem chkW_net {x : Fleet} (h : ChkW x) {i : Nat} (hi : i < x.k) : (-20000 ≤ x.net i 0 ∧ x.net i 0 ≤ 20000) ∧ (-20000 ≤ x.net i 1 ∧ x.net i 1 ≤ 20000) ∧ (0 ≤ x.net i 2 ∧ x.net i 2 ≤ 2000) ∧ (0 ≤ x.net i 3 ∧ x.net i 3 ≤ 1) ∧ (0 ≤ x.net i 4 ∧ x.net i 4 ≤ (x.hE : Int) - 1) ∧ (x.net i 4 ≤ x.net i 5 ∧ x.net i 5 ≤ x.hE) ∧ (-50 ≤ x.net i 6 ∧ x.net i 6 ≤ x.net i 7 ∧ x.net i 7 ≤ 50) ∧ -50 ≤ x.net i 8 ∧ x.net i 8 ≤ x.net i 9 ∧ x.net i 9 ≤ 50 := h.net i hi
end Nm
set_option linter.unusedSimpArgs false
set_option linter.unusedVariables false
namespace Go.Proofs.YtcfmdhlohahhcaaDoor
open Go Go.Sx Nm
set_option maxRecDepth 100000
def TF : List (Nat × Sig) := (127, sTdN) :: (123, sTdE) :: (126, sSl 8) :: (122, sSl 6) :: (125, sLg 1) :: (120, sLg 0) :: (124, sAt 1) :: (119, sAt 0) :: TE0
theorem TF_ok : SigsOk Tryd.prog E0 TF := (((((((TE0_ok.cons (runs 119 (by kernel_rfl)) fun x _ => q119 x).cons (runs 124 (by kernel_rfl)) fun x _ => q124 x).cons (runs 120 (by kernel_rfl)) fun x _ => q120 x).cons (runs 125 (by kernel_rfl)) fun x _ => q125 x).cons (runs 122 (by kernel_rfl)) fun x _ => q122 x).cons (runs 126 (by kernel_rfl)) fun x _ => q126 x).cons (runs 123 (by kernel_rfl)) q123).cons (runs 127 (by kernel_rfl)) q127
def sideE : TV := .a 4 (ofList [fnC 119, fnC 120, fnC 122, fnC 123])
def sideN : TV := .a 4 (ofList [fnC 124, fnC 125, fnC 126, fnC 127])
structure Ask where
  x : Fleet
  i : Nat
  k : Nat
  h : Int
def Ask.ok (a : Ask) : Prop := ChkW a.x ∧ a.x.wf ∧ a.i < a.x.k ∧ a.k < a.x.k ∧ 0 ≤ a.h ∧ a.h ≤ 24
def sApE : Sig := ⟨Ask, fun a => [fleetTV a.x, spanTV a.i a.k, intC a.h, sideE], Ask.ok, fun a => [.v (spanTV (apLo a.x a.x.e 0 6 a.i a.k a.h) (apHi a.x a.x.e 0 6 a.i a.k a.h))]⟩
def aA1 (x : Fleet) (f : Nat → Nat → Int) (p i k : Nat) : Ann := { G := Nat, ok := fun _ g => g ≤ (x.net k 4 - x.net i 4).toNat, dom := fun st => [osN (st.tm 12)], tm := fun _ g => [(13, .t (intC (x.net i 4 + g)))], hp := fun st g => [(osN (st.tm 12), .self, some (.box 2 (ofList [.int .i64 (x.net i p - x.net k p + dLo f (x.net i 4) 1 g), .int .i64 (x.net i p - x.net k p + dHi f (x.net i 4) 1 g)])))], mu := fun _ g => (x.net k 4 - x.net i 4).toNat - g }
def aA2 (x : Fleet) (f : Nat → Nat → Int) (p i k : Nat) : Ann := { G := Nat, ok := fun _ g => g ≤ (x.net i 4 - x.net k 4).toNat, dom := fun st => [osN (st.tm 12)], tm := fun _ g => [(14, .t (intC (x.net k 4 + g)))], hp := fun st g => [(osN (st.tm 12), .self, some (.box 2 (ofList [.int .i64 (bLo x f p i k + dLo f (x.net k 4) (-1) g), .int .i64 (bHi x f p i k + dHi f (x.net k 4) (-1) g)])))], mu := fun _ g => (x.net i 4 - x.net k 4).toNat - g }
theorem q68e (a : sApE.α) (ha : sApE.pre a) : CallQ Tryd.prog E0 68 (sApE.arg a) (sApE.res a) := by
  obtain ⟨x, i, k, h⟩ := a
  refine bare_tight E0_ok TF TF_ok [] EvensOk.nil runs [(68, 5, aA1 x x.e 0 i k), (68, 9, aA2 x x.e 0 i k)] [] [] [] [] [] (fuel := 5) ?_
  refine of_red (q := ∃ (x_1 : Fleet × Int), ((True ∧ flq x x_1.fst) ∧ (True ∧ (↑i : Int) = x_1.snd) ∧ True) ∧ ((x_1.fst.hE < (4611686018427387904 : Nat) ∧ x_1.fst.hN < (4611686018427387904 : Nat) ∧ x_1.fst.k < (4611686018427387904 : Nat)) ∧ (0 : Int) ≤ x_1.snd ∧ x_1.snd < (↑x_1.fst.k : Int)) ∧ ∃ (x_2 : Fleet × Int), ((True ∧ flq x x_2.fst) ∧ (True ∧ (↑k : Int) = x_2.snd) ∧ True) ∧ ((x_2.fst.hE < (4611686018427387904 : Nat) ∧ x_2.fst.hN < (4611686018427387904 : Nat) ∧ x_2.fst.k < (4611686018427387904 : Nat)) ∧ (0 : Int) ≤ x_2.snd ∧ x_2.snd < (↑x_2.fst.k : Int)) ∧ ∃ (x_3 : Nat → Int), ((True ∧ (((((((((True ∧ True ∧ x_1.fst.net x_1.snd.toNat 0 = x_3 0) ∧ True ∧ x_1.fst.net x_1.snd.toNat 1 = x_3 1) ∧ True ∧ x_1.fst.net x_1.snd.toNat 2 = x_3 2) ∧ True ∧ x_1.fst.net x_1.snd.toNat 3 = x_3 3) ∧ True ∧ x_1.fst.net x_1.snd.toNat 4 = x_3 4) ∧ True ∧ x_1.fst.net x_1.snd.toNat 5 = x_3 5) ∧ True ∧ x_1.fst.net x_1.snd.toNat 6 = x_3 6) ∧ True ∧ x_1.fst.net x_1.snd.toNat 7 = x_3 7) ∧ True ∧ x_1.fst.net x_1.snd.toNat 8 = x_3 8) ∧ True ∧ x_1.fst.net x_1.snd.toNat 9 = x_3 9) ∧ True) ∧ True ∧ ∃ (x_4 : Nat → Int), ((True ∧ (((((((((True ∧ True ∧ x_2.fst.net x_2.snd.toNat 0 = x_4 0) ∧ True ∧ x_2.fst.net x_2.snd.toNat 1 = x_4 1) ∧ True ∧ x_2.fst.net x_2.snd.toNat 2 = x_4 2) ∧ True ∧ x_2.fst.net x_2.snd.toNat 3 = x_4 3) ∧ True ∧ x_2.fst.net x_2.snd.toNat 4 = x_4 4) ∧ True ∧ x_2.fst.net x_2.snd.toNat 5 = x_4 5) ∧ True ∧ x_2.fst.net x_2.snd.toNat 6 = x_4 6) ∧ True ∧ x_2.fst.net x_2.snd.toNat 7 = x_4 7) ∧ True ∧ x_2.fst.net x_2.snd.toNat 8 = x_4 8) ∧ True ∧ x_2.fst.net x_2.snd.toNat 9 = x_4 9) ∧ True) ∧ True ∧ inRange IntKind.i64 (x_3 (0 : Nat) - x_4 (0 : Nat)) ∧ (∃ (g : Nat), g ≤ (x.net k (4 : Nat) - x.net i (4 : Nat)).toNat ∧ True ∧ ((True ∧ x_1.fst.net x_1.snd.toNat ((0 : Nat) + (nat_lit 3 + (1 : Nat))) = x.net i (4 : Nat) + (↑g : Int)) ∧ True) ∧ (True ∧ (True ∧ True ∧ x_3 (0 : Nat) - x_4 (0 : Nat) = x.net i (0 : Nat) - x.net k (0 : Nat) + dLo x.e (x.net i (4 : Nat)) (1 : Int) g) ∧ True ∧ x_3 (0 : Nat) - x_4 (0 : Nat) = x.net i (0 : Nat) - x.net k (0 : Nat) + dHi x.e (x.net i (4 : Nat)) (1 : Int) g) ∧ True) ∧ ∀ (g : Nat), g ≤ (x.net k (4 : Nat) - x.net i (4 : Nat)).toNat → (decide (x.net i (4 : Nat) + (↑g : Int) < x_2.fst.net x_2.snd.toNat ((0 : Nat) + (nat_lit 3 + (1 : Nat)))) = true → ∃ (x_5 : Fleet), ((True ∧ flq x x_5) ∧ True) ∧ (x_5.hE < (4611686018427387904 : Nat) ∧ x_5.hN < (4611686018427387904 : Nat) ∧ x_5.k < (4611686018427387904 : Nat)) ∧ (0 : Int) ≤ x.net i (4 : Nat) + (↑g : Int) ∧ x.net i (4 : Nat) + (↑g : Int) < (↑x_5.hE : Int) ∧ ∃ (x_6 : (Int × Int) × (Int × Int) × Int), ((True ∧ (True ∧ True ∧ x.net i (0 : Nat) - x.net k (0 : Nat) + dLo x.e (x.net i (4 : Nat)) (1 : Int) g = x_6.fst.fst) ∧ True ∧ x.net i (0 : Nat) - x.net k (0 : Nat) + dHi x.e (x.net i (4 : Nat)) (1 : Int) g = x_6.fst.snd) ∧ (True ∧ (True ∧ True ∧ x_5.e (x.net i (4 : Nat) + (↑g : Int)).toNat 0 = x_6.snd.fst.fst) ∧ True ∧ x_5.e (x.net i (4 : Nat) + (↑g : Int)).toNat 1 = x_6.snd.fst.snd) ∧ (True ∧ (1 : Int) = x_6.snd.snd) ∧ True) ∧ (((-1000000000 : Int) ≤ x_6.fst.fst ∧ x_6.fst.fst ≤ (1000000000 : Int)) ∧ ((-1000000000 : Int) ≤ x_6.fst.snd ∧ x_6.fst.snd ≤ (1000000000 : Int)) ∧ ((-1000000000 : Int) ≤ x_6.snd.fst.fst ∧ x_6.snd.fst.fst ≤ (1000000000 : Int)) ∧ ((-1000000000 : Int) ≤ x_6.snd.fst.snd ∧ x_6.snd.fst.snd ≤ (1000000000 : Int)) ∧ ((-1000000000 : Int) ≤ x_6.snd.snd ∧ x_6.snd.snd ≤ (1000000000 : Int)) ∧ x_6.snd.fst.fst ≤ x_6.snd.fst.snd) ∧ inRange IntKind.i64 (x.net i (4 : Nat) + (↑g : Int) + (1 : Int)) ∧ ∃ (g' : Nat), g' ≤ (x.net k (4 : Nat) - x.net i (4 : Nat)).toNat ∧ (x.net k (4 : Nat) - x.net i (4 : Nat)).toNat - g' < (x.net k (4 : Nat) - x.net i (4 : Nat)).toNat - g ∧ True ∧ ((True ∧ x.net i (4 : Nat) + (↑g : Int) + (1 : Int) = x.net i (4 : Nat) + (↑g' : Int)) ∧ True) ∧ (True ∧ (True ∧ True ∧ x_6.fst.fst + tLo x_6.snd.fst.fst x_6.snd.fst.snd x_6.snd.snd = x.net i (0 : Nat) - x.net k (0 : Nat) + dLo x.e (x.net i (4 : Nat)) (1 : Int) g') ∧ True ∧ x_6.fst.snd + tHi x_6.snd.fst.fst x_6.snd.fst.snd x_6.snd.snd = x.net i (0 : Nat) - x.net k (0 : Nat) + dHi x.e (x.net i (4 : Nat)) (1 : Int) g') ∧ True) ∧ (decide (x.net i (4 : Nat) + (↑g : Int) < x_2.fst.net x_2.snd.toNat ((0 : Nat) + (nat_lit 3 + (1 : Nat)))) = false → (∃ (g_1 : Nat), g_1 ≤ (x.net i (4 : Nat) - x.net k (4 : Nat)).toNat ∧ True ∧ ((True ∧ x_2.fst.net x_2.snd.toNat ((0 : Nat) + (nat_lit 3 + (1 : Nat))) = x.net k (4 : Nat) + (↑g_1 : Int)) ∧ True) ∧ (True ∧ (True ∧ True ∧ x.net i (0 : Nat) - x.net k (0 : Nat) + dLo x.e (x.net i (4 : Nat)) (1 : Int) g = bLo x x.e (0 : Nat) i k + dLo x.e (x.net k (4 : Nat)) (-1 : Int) g_1) ∧ True ∧ x.net i (0 : Nat) - x.net k (0 : Nat) + dHi x.e (x.net i (4 : Nat)) (1 : Int) g = bHi x x.e (0 : Nat) i k + dHi x.e (x.net k (4 : Nat)) (-1 : Int) g_1) ∧ True) ∧ ∀ (g : Nat), g ≤ (x.net i (4 : Nat) - x.net k (4 : Nat)).toNat → (decide (x.net k (4 : Nat) + (↑g : Int) < x_1.fst.net x_1.snd.toNat ((0 : Nat) + (nat_lit 3 + (1 : Nat)))) = true → ∃ (x_5 : Fleet), ((True ∧ flq x x_5) ∧ True) ∧ (x_5.hE < (4611686018427387904 : Nat) ∧ x_5.hN < (4611686018427387904 : Nat) ∧ x_5.k < (4611686018427387904 : Nat)) ∧ (0 : Int) ≤ x.net k (4 : Nat) + (↑g : Int) ∧ x.net k (4 : Nat) + (↑g : Int) < (↑x_5.hE : Int) ∧ ∃ (x_6 : (Int × Int) × (Int × Int) × Int), ((True ∧ (True ∧ True ∧ bLo x x.e (0 : Nat) i k + dLo x.e (x.net k (4 : Nat)) (-1 : Int) g = x_6.fst.fst) ∧ True ∧ bHi x x.e (0 : Nat) i k + dHi x.e (x.net k (4 : Nat)) (-1 : Int) g = x_6.fst.snd) ∧ (True ∧ (True ∧ True ∧ x_5.e (x.net k (4 : Nat) + (↑g : Int)).toNat 0 = x_6.snd.fst.fst) ∧ True ∧ x_5.e (x.net k (4 : Nat) + (↑g : Int)).toNat 1 = x_6.snd.fst.snd) ∧ (True ∧ (-1 : Int) = x_6.snd.snd) ∧ True) ∧ (((-1000000000 : Int) ≤ x_6.fst.fst ∧ x_6.fst.fst ≤ (1000000000 : Int)) ∧ ((-1000000000 : Int) ≤ x_6.fst.snd ∧ x_6.fst.snd ≤ (1000000000 : Int)) ∧ ((-1000000000 : Int) ≤ x_6.snd.fst.fst ∧ x_6.snd.fst.fst ≤ (1000000000 : Int)) ∧ ((-1000000000 : Int) ≤ x_6.snd.fst.snd ∧ x_6.snd.fst.snd ≤ (1000000000 : Int)) ∧ ((-1000000000 : Int) ≤ x_6.snd.snd ∧ x_6.snd.snd ≤ (1000000000 : Int)) ∧ x_6.snd.fst.fst ≤ x_6.snd.fst.snd) ∧ inRange IntKind.i64 (x.net k (4 : Nat) + (↑g : Int) + (1 : Int)) ∧ ∃ (g' : Nat), g' ≤ (x.net i (4 : Nat) - x.net k (4 : Nat)).toNat ∧ (x.net i (4 : Nat) - x.net k (4 : Nat)).toNat - g' < (x.net i (4 : Nat) - x.net k (4 : Nat)).toNat - g ∧ True ∧ ((True ∧ x.net k (4 : Nat) + (↑g : Int) + (1 : Int) = x.net k (4 : Nat) + (↑g' : Int)) ∧ True) ∧ (True ∧ (True ∧ True ∧ x_6.fst.fst + tLo x_6.snd.fst.fst x_6.snd.fst.snd x_6.snd.snd = bLo x x.e (0 : Nat) i k + dLo x.e (x.net k (4 : Nat)) (-1 : Int) g') ∧ True ∧ x_6.fst.snd + tHi x_6.snd.fst.fst x_6.snd.fst.snd x_6.snd.snd = bHi x x.e (0 : Nat) i k + dHi x.e (x.net k (4 : Nat)) (-1 : Int) g') ∧ True) ∧ (decide (x.net k (4 : Nat) + (↑g : Int) < x_1.fst.net x_1.snd.toNat ((0 : Nat) + (nat_lit 3 + (1 : Nat)))) = false → ∃ (x_5 : Nat → Int), ((True ∧ (((((((((True ∧ True ∧ x_1.fst.net x_1.snd.toNat 0 = x_5 0) ∧ True ∧ x_1.fst.net x_1.snd.toNat 1 = x_5 1) ∧ True ∧ x_1.fst.net x_1.snd.toNat 2 = x_5 2) ∧ True ∧ x_1.fst.net x_1.snd.toNat 3 = x_5 3) ∧ True ∧ x_1.fst.net x_1.snd.toNat 4 = x_5 4) ∧ True ∧ x_1.fst.net x_1.snd.toNat 5 = x_5 5) ∧ True ∧ x_1.fst.net x_1.snd.toNat 6 = x_5 6) ∧ True ∧ x_1.fst.net x_1.snd.toNat 7 = x_5 7) ∧ True ∧ x_1.fst.net x_1.snd.toNat 8 = x_5 8) ∧ True ∧ x_1.fst.net x_1.snd.toNat 9 = x_5 9) ∧ True) ∧ True ∧ inRange IntKind.i64 (h - x_1.fst.net x_1.snd.toNat ((0 : Nat) + (nat_lit 3 + (1 : Nat)))) ∧ ∃ (x_6 : (Int × Int) × (Int × Int) × Int), ((True ∧ (True ∧ True ∧ bLo x x.e (0 : Nat) i k + dLo x.e (x.net k (4 : Nat)) (-1 : Int) g = x_6.fst.fst) ∧ True ∧ bHi x x.e (0 : Nat) i k + dHi x.e (x.net k (4 : Nat)) (-1 : Int) g = x_6.fst.snd) ∧ (True ∧ (True ∧ True ∧ x_5 (6 : Nat) = x_6.snd.fst.fst) ∧ True ∧ x_5 ((6 : Nat) + (1 : Nat)) = x_6.snd.fst.snd) ∧ (True ∧ h - x_1.fst.net x_1.snd.toNat ((0 : Nat) + (nat_lit 3 + (1 : Nat))) = x_6.snd.snd) ∧ True) ∧ (((-1000000000 : Int) ≤ x_6.fst.fst ∧ x_6.fst.fst ≤ (1000000000 : Int)) ∧ ((-1000000000 : Int) ≤ x_6.fst.snd ∧ x_6.fst.snd ≤ (1000000000 : Int)) ∧ ((-1000000000 : Int) ≤ x_6.snd.fst.fst ∧ x_6.snd.fst.fst ≤ (1000000000 : Int)) ∧ ((-1000000000 : Int) ≤ x_6.snd.fst.snd ∧ x_6.snd.fst.snd ≤ (1000000000 : Int)) ∧ ((-1000000000 : Int) ≤ x_6.snd.snd ∧ x_6.snd.snd ≤ (1000000000 : Int)) ∧ x_6.snd.fst.fst ≤ x_6.snd.fst.snd) ∧ ∃ (x_7 : Nat → Int), ((True ∧ (((((((((True ∧ True ∧ x_2.fst.net x_2.snd.toNat 0 = x_7 0) ∧ True ∧ x_2.fst.net x_2.snd.toNat 1 = x_7 1) ∧ True ∧ x_2.fst.net x_2.snd.toNat 2 = x_7 2) ∧ True ∧ x_2.fst.net x_2.snd.toNat 3 = x_7 3) ∧ True ∧ x_2.fst.net x_2.snd.toNat 4 = x_7 4) ∧ True ∧ x_2.fst.net x_2.snd.toNat 5 = x_7 5) ∧ True ∧ x_2.fst.net x_2.snd.toNat 6 = x_7 6) ∧ True ∧ x_2.fst.net x_2.snd.toNat 7 = x_7 7) ∧ True ∧ x_2.fst.net x_2.snd.toNat 8 = x_7 8) ∧ True ∧ x_2.fst.net x_2.snd.toNat 9 = x_7 9) ∧ True) ∧ True ∧ inRange IntKind.i64 (x_2.fst.net x_2.snd.toNat ((0 : Nat) + (nat_lit 3 + (1 : Nat))) - h) ∧ ∃ (x_8 : (Int × Int) × (Int × Int) × Int), ((True ∧ (True ∧ True ∧ x_6.fst.fst + tLo x_6.snd.fst.fst x_6.snd.fst.snd x_6.snd.snd = x_8.fst.fst) ∧ True ∧ x_6.fst.snd + tHi x_6.snd.fst.fst x_6.snd.fst.snd x_6.snd.snd = x_8.fst.snd) ∧ (True ∧ (True ∧ True ∧ x_7 (6 : Nat) = x_8.snd.fst.fst) ∧ True ∧ x_7 ((6 : Nat) + (1 : Nat)) = x_8.snd.fst.snd) ∧ (True ∧ x_2.fst.net x_2.snd.toNat ((0 : Nat) + (nat_lit 3 + (1 : Nat))) - h = x_8.snd.snd) ∧ True) ∧ (((-1000000000 : Int) ≤ x_8.fst.fst ∧ x_8.fst.fst ≤ (1000000000 : Int)) ∧ ((-1000000000 : Int) ≤ x_8.fst.snd ∧ x_8.fst.snd ≤ (1000000000 : Int)) ∧ ((-1000000000 : Int) ≤ x_8.snd.fst.fst ∧ x_8.snd.fst.fst ≤ (1000000000 : Int)) ∧ ((-1000000000 : Int) ≤ x_8.snd.fst.snd ∧ x_8.snd.fst.snd ≤ (1000000000 : Int)) ∧ ((-1000000000 : Int) ≤ x_8.snd.snd ∧ x_8.snd.snd ≤ (1000000000 : Int)) ∧ x_8.snd.fst.fst ≤ x_8.snd.fst.snd) ∧ True ∧ (True ∧ True ∧ x_8.fst.fst + tLo x_8.snd.fst.fst x_8.snd.fst.snd x_8.snd.snd = apLo x x.e (0 : Nat) (6 : Nat) i k h) ∧ True ∧ x_8.fst.snd + tHi x_8.snd.fst.fst x_8.snd.fst.snd x_8.snd.snd = apHi x x.e (0 : Nat) (6 : Nat) i k h))) (by kernel_rfl) ?_
  simp only [flq, true_and, and_true, inR, Prod.exists, Prod.forall, and_assoc, exists_and_left, exists_eq_left', exists_eq_left, forall_eq, exists_const, forall_const, loopN, loopM, fa2, fas, fas2, dup1, dup2, dup3, dup4, ite_true, exhs, exhn, exhz, exho, exs1, exn1, exz1, exo1, exs2, exn2, exz2, exo2, exs3, exn3, exz3, exo3, exs4, exn4, exz4, exo4, exs5, exn5, exz5, exo5, exs6, exn6, exz6, exo6, exs7, exn7, exz7, exo7, exs8, exn8, exz8, exo8, exs9, exn9, exz9, exo9, ex1, ex2, ex3, ex4, ex5, beqI, bneI, decide_true, Bool.true_and, decide_eq_true_eq, decide_eq_false_iff_not, ne_eq, Decidable.not_not]
  simp only [Int.toNat_natCast, Nat.reduceAdd]
  obtain ⟨hc, ⟨w1, w2, w3⟩, hi, hk, h0, h24⟩ := (show ChkW x ∧ x.wf ∧ i < x.k ∧ k < x.k ∧ 0 ≤ h ∧ h ≤ 24 from ha)
  obtain ⟨⟨i1, i2⟩, _, _, _, ⟨i3, i4⟩, _, ⟨i5, i6, i7⟩, _⟩ := chkW_net hc hi
  obtain ⟨⟨k1, k2⟩, _, _, _, ⟨k3, k4⟩, _, ⟨k5, k6, k7⟩, _⟩ := chkW_net hc hk
  obtain ⟨s1, s2, _⟩ := chkW_size hc
  have hf : ∀ j, j < x.hE → -200 ≤ x.e j 0 ∧ x.e j 0 ≤ x.e j 1 ∧ x.e j 1 ≤ 200 := fun j hj => (chkW_hour hc hj).1
  have lb : (-44800 ≤ bLo x x.e 0 i k ∧ bLo x x.e 0 i k ≤ 44800) ∧ -44800 ≤ bHi x x.e 0 i k ∧ bHi x x.e 0 i k ≤ 44800 := by
    obtain ⟨⟨b1, b2⟩, b3, b4⟩ := d_bd (t := 1) (n := (x.net k 4 - x.net i 4).toNat) (a := x.net i 4) hf (.inl rfl) (by omega) (by omega)
    unfold bLo bHi
    omega
  obtain ⟨⟨lb1, lb2⟩, lb3, lb4⟩ := lb
  refine ⟨x, rfl, fun _ _ => ⟨rfl, rfl⟩, rfl, fun _ _ => ⟨rfl, rfl⟩, rfl, rfl, fun _ _ => ⟨rfl, rfl, rfl, rfl, rfl, rfl, rfl, rfl, rfl, rfl⟩, w1, w2, w3, by omega, by omega, x, rfl, fun _ _ => ⟨rfl, rfl⟩, rfl, fun _ _ => ⟨rfl, rfl⟩, rfl, rfl, fun _ _ => ⟨rfl, rfl, rfl, rfl, rfl, rfl, rfl, rfl, rfl, rfl⟩, w1, w2, w3, by omega, by omega, x.net i, rfl, rfl, rfl, rfl, rfl, rfl, rfl, rfl, rfl, rfl, x.net k, rfl, rfl, rfl, rfl, rfl, rfl, rfl, rfl, rfl, rfl, by omega, by omega, ⟨0, Nat.zero_le _, by simp, by simp [dLo, sumN], by simp [dHi, sumN]⟩, fun g hg => ⟨fun hlt => ?_, fun hge => ⟨?_, fun g2 hg2 => ⟨fun hlt2 => ?_, fun hge2 => ?_⟩⟩⟩⟩
  · have eT : (x.net i 4 + (g : Int)).toNat = (x.net i 4).toNat + g := by omega
    obtain ⟨⟨b1, b2⟩, b3, b4⟩ := d_bd (t := 1) (n := g) (a := x.net i 4) hf (.inl rfl) (by omega) (by omega)
    obtain ⟨f1, f2, f3⟩ := hf ((x.net i 4).toNat + g) (by omega)
    have t1 : dLo x.e (x.net i 4) 1 (g + 1) = dLo x.e (x.net i 4) 1 g + tLo (x.e ((x.net i 4).toNat + g) 0) (x.e ((x.net i 4).toNat + g) 1) 1 := rfl
    have t2 : dHi x.e (x.net i 4) 1 (g + 1) = dHi x.e (x.net i 4) 1 g + tHi (x.e ((x.net i 4).toNat + g) 0) (x.e ((x.net i 4).toNat + g) 1) 1 := rfl
    simp only [eT]
    exact ⟨x, rfl, fun _ _ => ⟨rfl, rfl⟩, rfl, fun _ _ => ⟨rfl, rfl⟩, rfl, rfl, fun _ _ => ⟨rfl, rfl, rfl, rfl, rfl, rfl, rfl, rfl, rfl, rfl⟩, w1, w2, w3, by omega, by omega, by omega, by omega, by omega, by omega, by omega, by omega, by omega, by omega, by omega, by omega, by omega, by omega, by omega, g + 1, by omega, by omega, by omega, by rw [t1]; omega, by rw [t2]; omega⟩
  · have eg : g = (x.net k 4 - x.net i 4).toNat := by omega
    exact ⟨0, Nat.zero_le _, by simp, by rw [eg]; exact (Int.add_zero _).symm, by rw [eg]; exact (Int.add_zero _).symm⟩
  · have eT : (x.net k 4 + (g2 : Int)).toNat = (x.net k 4).toNat + g2 := by omega
    obtain ⟨⟨b1, b2⟩, b3, b4⟩ := d_bd (t := -1) (n := g2) (a := x.net k 4) hf (.inr rfl) (by omega) (by omega)
    obtain ⟨f1, f2, f3⟩ := hf ((x.net k 4).toNat + g2) (by omega)
    have t1 : dLo x.e (x.net k 4) (-1) (g2 + 1) = dLo x.e (x.net k 4) (-1) g2 + tLo (x.e ((x.net k 4).toNat + g2) 0) (x.e ((x.net k 4).toNat + g2) 1) (-1) := rfl
    have t2 : dHi x.e (x.net k 4) (-1) (g2 + 1) = dHi x.e (x.net k 4) (-1) g2 + tHi (x.e ((x.net k 4).toNat + g2) 0) (x.e ((x.net k 4).toNat + g2) 1) (-1) := rfl
    simp only [eT]
    exact ⟨x, rfl, fun _ _ => ⟨rfl, rfl⟩, rfl, fun _ _ => ⟨rfl, rfl⟩, rfl, rfl, fun _ _ => ⟨rfl, rfl, rfl, rfl, rfl, rfl, rfl, rfl, rfl, rfl⟩, w1, w2, w3, by omega, by omega, by omega, by omega, by omega, by omega, by omega, by omega, by omega, by omega, by omega, by omega, by omega, by omega, by omega, g2 + 1, by omega, by omega, by omega, by rw [t1]; omega, by rw [t2]; omega⟩
  · have eg : g2 = (x.net i 4 - x.net k 4).toNat := by omega
    obtain ⟨⟨b1, b2⟩, b3, b4⟩ := d_bd (t := -1) (n := g2) (a := x.net k 4) hf (.inr rfl) (by omega) (by omega)
    obtain ⟨⟨u1, u2⟩, u3, u4⟩ := t_bd (n := h - x.net i 4) i5 i6 i7 (by omega) (by omega)
    obtain ⟨⟨v1, v2⟩, v3, v4⟩ := t_bd (n := x.net k 4 - h) k5 k6 k7 (by omega) (by omega)
    refine ⟨x.net i, rfl, rfl, rfl, rfl, rfl, rfl, rfl, rfl, rfl, rfl, by omega, by omega, by omega, by omega, by omega, by omega, by omega, by omega, by omega, by omega, by omega, by omega, by omega, x.net k, rfl, rfl, rfl, rfl, rfl, rfl, rfl, rfl, rfl, rfl, by omega, by omega, by omega, by omega, by omega, by omega, by omega, by omega, by omega, by omega, by omega, by omega, by omega, ?_, ?_⟩
    · rw [eg]; rfl
    · rw [eg]; rfl
end Go.Proofs.YtcfmdhlohahhcaaDoor
set_option linter.unusedSimpArgs false
set_option linter.unusedVariables false
namespace Go.Proofs.YtcfmdhlohahhcaaDoor
open Go Go.Sx Nm
set_option maxRecDepth 100000
def sApN : Sig := ⟨Ask, fun a => [fleetTV a.x, spanTV a.i a.k, intC a.h, sideN], Ask.ok, fun a => [.v (spanTV (apLo a.x a.x.n 1 8 a.i a.k a.h) (apHi a.x a.x.n 1 8 a.i a.k a.h))]⟩
theorem q68n (a : sApN.α) (ha : sApN.pre a) : CallQ Tryd.prog E0 68 (sApN.arg a) (sApN.res a) := by
  obtain ⟨x, i, k, h⟩ := a
  refine bare_tight E0_ok TF TF_ok [] EvensOk.nil runs [(68, 5, aA1 x x.n 1 i k), (68, 9, aA2 x x.n 1 i k)] [] [] [] [] [] (fuel := 5) ?_
  refine of_red (q := ∃ (x_1 : Fleet × Int), ((True ∧ flq x x_1.fst) ∧ (True ∧ (↑i : Int) = x_1.snd) ∧ True) ∧ ((x_1.fst.hE < (4611686018427387904 : Nat) ∧ x_1.fst.hN < (4611686018427387904 : Nat) ∧ x_1.fst.k < (4611686018427387904 : Nat)) ∧ (0 : Int) ≤ x_1.snd ∧ x_1.snd < (↑x_1.fst.k : Int)) ∧ ∃ (x_2 : Fleet × Int), ((True ∧ flq x x_2.fst) ∧ (True ∧ (↑k : Int) = x_2.snd) ∧ True) ∧ ((x_2.fst.hE < (4611686018427387904 : Nat) ∧ x_2.fst.hN < (4611686018427387904 : Nat) ∧ x_2.fst.k < (4611686018427387904 : Nat)) ∧ (0 : Int) ≤ x_2.snd ∧ x_2.snd < (↑x_2.fst.k : Int)) ∧ ∃ (x_3 : Nat → Int), ((True ∧ (((((((((True ∧ True ∧ x_1.fst.net x_1.snd.toNat 0 = x_3 0) ∧ True ∧ x_1.fst.net x_1.snd.toNat 1 = x_3 1) ∧ True ∧ x_1.fst.net x_1.snd.toNat 2 = x_3 2) ∧ True ∧ x_1.fst.net x_1.snd.toNat 3 = x_3 3) ∧ True ∧ x_1.fst.net x_1.snd.toNat 4 = x_3 4) ∧ True ∧ x_1.fst.net x_1.snd.toNat 5 = x_3 5) ∧ True ∧ x_1.fst.net x_1.snd.toNat 6 = x_3 6) ∧ True ∧ x_1.fst.net x_1.snd.toNat 7 = x_3 7) ∧ True ∧ x_1.fst.net x_1.snd.toNat 8 = x_3 8) ∧ True ∧ x_1.fst.net x_1.snd.toNat 9 = x_3 9) ∧ True) ∧ True ∧ ∃ (x_4 : Nat → Int), ((True ∧ (((((((((True ∧ True ∧ x_2.fst.net x_2.snd.toNat 0 = x_4 0) ∧ True ∧ x_2.fst.net x_2.snd.toNat 1 = x_4 1) ∧ True ∧ x_2.fst.net x_2.snd.toNat 2 = x_4 2) ∧ True ∧ x_2.fst.net x_2.snd.toNat 3 = x_4 3) ∧ True ∧ x_2.fst.net x_2.snd.toNat 4 = x_4 4) ∧ True ∧ x_2.fst.net x_2.snd.toNat 5 = x_4 5) ∧ True ∧ x_2.fst.net x_2.snd.toNat 6 = x_4 6) ∧ True ∧ x_2.fst.net x_2.snd.toNat 7 = x_4 7) ∧ True ∧ x_2.fst.net x_2.snd.toNat 8 = x_4 8) ∧ True ∧ x_2.fst.net x_2.snd.toNat 9 = x_4 9) ∧ True) ∧ True ∧ inRange IntKind.i64 (x_3 (1 : Nat) - x_4 (1 : Nat)) ∧ (∃ (g : Nat), g ≤ (x.net k (4 : Nat) - x.net i (4 : Nat)).toNat ∧ True ∧ ((True ∧ x_1.fst.net x_1.snd.toNat ((0 : Nat) + (nat_lit 3 + (1 : Nat))) = x.net i (4 : Nat) + (↑g : Int)) ∧ True) ∧ (True ∧ (True ∧ True ∧ x_3 (1 : Nat) - x_4 (1 : Nat) = x.net i (1 : Nat) - x.net k (1 : Nat) + dLo x.n (x.net i (4 : Nat)) (1 : Int) g) ∧ True ∧ x_3 (1 : Nat) - x_4 (1 : Nat) = x.net i (1 : Nat) - x.net k (1 : Nat) + dHi x.n (x.net i (4 : Nat)) (1 : Int) g) ∧ True) ∧ ∀ (g : Nat), g ≤ (x.net k (4 : Nat) - x.net i (4 : Nat)).toNat → (decide (x.net i (4 : Nat) + (↑g : Int) < x_2.fst.net x_2.snd.toNat ((0 : Nat) + (nat_lit 3 + (1 : Nat)))) = true → ∃ (x_5 : Fleet), ((True ∧ flq x x_5) ∧ True) ∧ (x_5.hE < (4611686018427387904 : Nat) ∧ x_5.hN < (4611686018427387904 : Nat) ∧ x_5.k < (4611686018427387904 : Nat)) ∧ (0 : Int) ≤ x.net i (4 : Nat) + (↑g : Int) ∧ x.net i (4 : Nat) + (↑g : Int) < (↑x_5.hN : Int) ∧ ∃ (x_6 : (Int × Int) × (Int × Int) × Int), ((True ∧ (True ∧ True ∧ x.net i (1 : Nat) - x.net k (1 : Nat) + dLo x.n (x.net i (4 : Nat)) (1 : Int) g = x_6.fst.fst) ∧ True ∧ x.net i (1 : Nat) - x.net k (1 : Nat) + dHi x.n (x.net i (4 : Nat)) (1 : Int) g = x_6.fst.snd) ∧ (True ∧ (True ∧ True ∧ x_5.n (x.net i (4 : Nat) + (↑g : Int)).toNat 0 = x_6.snd.fst.fst) ∧ True ∧ x_5.n (x.net i (4 : Nat) + (↑g : Int)).toNat 1 = x_6.snd.fst.snd) ∧ (True ∧ (1 : Int) = x_6.snd.snd) ∧ True) ∧ (((-1000000000 : Int) ≤ x_6.fst.fst ∧ x_6.fst.fst ≤ (1000000000 : Int)) ∧ ((-1000000000 : Int) ≤ x_6.fst.snd ∧ x_6.fst.snd ≤ (1000000000 : Int)) ∧ ((-1000000000 : Int) ≤ x_6.snd.fst.fst ∧ x_6.snd.fst.fst ≤ (1000000000 : Int)) ∧ ((-1000000000 : Int) ≤ x_6.snd.fst.snd ∧ x_6.snd.fst.snd ≤ (1000000000 : Int)) ∧ ((-1000000000 : Int) ≤ x_6.snd.snd ∧ x_6.snd.snd ≤ (1000000000 : Int)) ∧ x_6.snd.fst.fst ≤ x_6.snd.fst.snd) ∧ inRange IntKind.i64 (x.net i (4 : Nat) + (↑g : Int) + (1 : Int)) ∧ ∃ (g' : Nat), g' ≤ (x.net k (4 : Nat) - x.net i (4 : Nat)).toNat ∧ (x.net k (4 : Nat) - x.net i (4 : Nat)).toNat - g' < (x.net k (4 : Nat) - x.net i (4 : Nat)).toNat - g ∧ True ∧ ((True ∧ x.net i (4 : Nat) + (↑g : Int) + (1 : Int) = x.net i (4 : Nat) + (↑g' : Int)) ∧ True) ∧ (True ∧ (True ∧ True ∧ x_6.fst.fst + tLo x_6.snd.fst.fst x_6.snd.fst.snd x_6.snd.snd = x.net i (1 : Nat) - x.net k (1 : Nat) + dLo x.n (x.net i (4 : Nat)) (1 : Int) g') ∧ True ∧ x_6.fst.snd + tHi x_6.snd.fst.fst x_6.snd.fst.snd x_6.snd.snd = x.net i (1 : Nat) - x.net k (1 : Nat) + dHi x.n (x.net i (4 : Nat)) (1 : Int) g') ∧ True) ∧ (decide (x.net i (4 : Nat) + (↑g : Int) < x_2.fst.net x_2.snd.toNat ((0 : Nat) + (nat_lit 3 + (1 : Nat)))) = false → (∃ (g_1 : Nat), g_1 ≤ (x.net i (4 : Nat) - x.net k (4 : Nat)).toNat ∧ True ∧ ((True ∧ x_2.fst.net x_2.snd.toNat ((0 : Nat) + (nat_lit 3 + (1 : Nat))) = x.net k (4 : Nat) + (↑g_1 : Int)) ∧ True) ∧ (True ∧ (True ∧ True ∧ x.net i (1 : Nat) - x.net k (1 : Nat) + dLo x.n (x.net i (4 : Nat)) (1 : Int) g = bLo x x.n (1 : Nat) i k + dLo x.n (x.net k (4 : Nat)) (-1 : Int) g_1) ∧ True ∧ x.net i (1 : Nat) - x.net k (1 : Nat) + dHi x.n (x.net i (4 : Nat)) (1 : Int) g = bHi x x.n (1 : Nat) i k + dHi x.n (x.net k (4 : Nat)) (-1 : Int) g_1) ∧ True) ∧ ∀ (g : Nat), g ≤ (x.net i (4 : Nat) - x.net k (4 : Nat)).toNat → (decide (x.net k (4 : Nat) + (↑g : Int) < x_1.fst.net x_1.snd.toNat ((0 : Nat) + (nat_lit 3 + (1 : Nat)))) = true → ∃ (x_5 : Fleet), ((True ∧ flq x x_5) ∧ True) ∧ (x_5.hE < (4611686018427387904 : Nat) ∧ x_5.hN < (4611686018427387904 : Nat) ∧ x_5.k < (4611686018427387904 : Nat)) ∧ (0 : Int) ≤ x.net k (4 : Nat) + (↑g : Int) ∧ x.net k (4 : Nat) + (↑g : Int) < (↑x_5.hN : Int) ∧ ∃ (x_6 : (Int × Int) × (Int × Int) × Int), ((True ∧ (True ∧ True ∧ bLo x x.n (1 : Nat) i k + dLo x.n (x.net k (4 : Nat)) (-1 : Int) g = x_6.fst.fst) ∧ True ∧ bHi x x.n (1 : Nat) i k + dHi x.n (x.net k (4 : Nat)) (-1 : Int) g = x_6.fst.snd) ∧ (True ∧ (True ∧ True ∧ x_5.n (x.net k (4 : Nat) + (↑g : Int)).toNat 0 = x_6.snd.fst.fst) ∧ True ∧ x_5.n (x.net k (4 : Nat) + (↑g : Int)).toNat 1 = x_6.snd.fst.snd) ∧ (True ∧ (-1 : Int) = x_6.snd.snd) ∧ True) ∧ (((-1000000000 : Int) ≤ x_6.fst.fst ∧ x_6.fst.fst ≤ (1000000000 : Int)) ∧ ((-1000000000 : Int) ≤ x_6.fst.snd ∧ x_6.fst.snd ≤ (1000000000 : Int)) ∧ ((-1000000000 : Int) ≤ x_6.snd.fst.fst ∧ x_6.snd.fst.fst ≤ (1000000000 : Int)) ∧ ((-1000000000 : Int) ≤ x_6.snd.fst.snd ∧ x_6.snd.fst.snd ≤ (1000000000 : Int)) ∧ ((-1000000000 : Int) ≤ x_6.snd.snd ∧ x_6.snd.snd ≤ (1000000000 : Int)) ∧ x_6.snd.fst.fst ≤ x_6.snd.fst.snd) ∧ inRange IntKind.i64 (x.net k (4 : Nat) + (↑g : Int) + (1 : Int)) ∧ ∃ (g' : Nat), g' ≤ (x.net i (4 : Nat) - x.net k (4 : Nat)).toNat ∧ (x.net i (4 : Nat) - x.net k (4 : Nat)).toNat - g' < (x.net i (4 : Nat) - x.net k (4 : Nat)).toNat - g ∧ True ∧ ((True ∧ x.net k (4 : Nat) + (↑g : Int) + (1 : Int) = x.net k (4 : Nat) + (↑g' : Int)) ∧ True) ∧ (True ∧ (True ∧ True ∧ x_6.fst.fst + tLo x_6.snd.fst.fst x_6.snd.fst.snd x_6.snd.snd = bLo x x.n (1 : Nat) i k + dLo x.n (x.net k (4 : Nat)) (-1 : Int) g') ∧ True ∧ x_6.fst.snd + tHi x_6.snd.fst.fst x_6.snd.fst.snd x_6.snd.snd = bHi x x.n (1 : Nat) i k + dHi x.n (x.net k (4 : Nat)) (-1 : Int) g') ∧ True) ∧ (decide (x.net k (4 : Nat) + (↑g : Int) < x_1.fst.net x_1.snd.toNat ((0 : Nat) + (nat_lit 3 + (1 : Nat)))) = false → ∃ (x_5 : Nat → Int), ((True ∧ (((((((((True ∧ True ∧ x_1.fst.net x_1.snd.toNat 0 = x_5 0) ∧ True ∧ x_1.fst.net x_1.snd.toNat 1 = x_5 1) ∧ True ∧ x_1.fst.net x_1.snd.toNat 2 = x_5 2) ∧ True ∧ x_1.fst.net x_1.snd.toNat 3 = x_5 3) ∧ True ∧ x_1.fst.net x_1.snd.toNat 4 = x_5 4) ∧ True ∧ x_1.fst.net x_1.snd.toNat 5 = x_5 5) ∧ True ∧ x_1.fst.net x_1.snd.toNat 6 = x_5 6) ∧ True ∧ x_1.fst.net x_1.snd.toNat 7 = x_5 7) ∧ True ∧ x_1.fst.net x_1.snd.toNat 8 = x_5 8) ∧ True ∧ x_1.fst.net x_1.snd.toNat 9 = x_5 9) ∧ True) ∧ True ∧ inRange IntKind.i64 (h - x_1.fst.net x_1.snd.toNat ((0 : Nat) + (nat_lit 3 + (1 : Nat)))) ∧ ∃ (x_6 : (Int × Int) × (Int × Int) × Int), ((True ∧ (True ∧ True ∧ bLo x x.n (1 : Nat) i k + dLo x.n (x.net k (4 : Nat)) (-1 : Int) g = x_6.fst.fst) ∧ True ∧ bHi x x.n (1 : Nat) i k + dHi x.n (x.net k (4 : Nat)) (-1 : Int) g = x_6.fst.snd) ∧ (True ∧ (True ∧ True ∧ x_5 (8 : Nat) = x_6.snd.fst.fst) ∧ True ∧ x_5 ((8 : Nat) + (1 : Nat)) = x_6.snd.fst.snd) ∧ (True ∧ h - x_1.fst.net x_1.snd.toNat ((0 : Nat) + (nat_lit 3 + (1 : Nat))) = x_6.snd.snd) ∧ True) ∧ (((-1000000000 : Int) ≤ x_6.fst.fst ∧ x_6.fst.fst ≤ (1000000000 : Int)) ∧ ((-1000000000 : Int) ≤ x_6.fst.snd ∧ x_6.fst.snd ≤ (1000000000 : Int)) ∧ ((-1000000000 : Int) ≤ x_6.snd.fst.fst ∧ x_6.snd.fst.fst ≤ (1000000000 : Int)) ∧ ((-1000000000 : Int) ≤ x_6.snd.fst.snd ∧ x_6.snd.fst.snd ≤ (1000000000 : Int)) ∧ ((-1000000000 : Int) ≤ x_6.snd.snd ∧ x_6.snd.snd ≤ (1000000000 : Int)) ∧ x_6.snd.fst.fst ≤ x_6.snd.fst.snd) ∧ ∃ (x_7 : Nat → Int), ((True ∧ (((((((((True ∧ True ∧ x_2.fst.net x_2.snd.toNat 0 = x_7 0) ∧ True ∧ x_2.fst.net x_2.snd.toNat 1 = x_7 1) ∧ True ∧ x_2.fst.net x_2.snd.toNat 2 = x_7 2) ∧ True ∧ x_2.fst.net x_2.snd.toNat 3 = x_7 3) ∧ True ∧ x_2.fst.net x_2.snd.toNat 4 = x_7 4) ∧ True ∧ x_2.fst.net x_2.snd.toNat 5 = x_7 5) ∧ True ∧ x_2.fst.net x_2.snd.toNat 6 = x_7 6) ∧ True ∧ x_2.fst.net x_2.snd.toNat 7 = x_7 7) ∧ True ∧ x_2.fst.net x_2.snd.toNat 8 = x_7 8) ∧ True ∧ x_2.fst.net x_2.snd.toNat 9 = x_7 9) ∧ True) ∧ True ∧ inRange IntKind.i64 (x_2.fst.net x_2.snd.toNat ((0 : Nat) + (nat_lit 3 + (1 : Nat))) - h) ∧ ∃ (x_8 : (Int × Int) × (Int × Int) × Int), ((True ∧ (True ∧ True ∧ x_6.fst.fst + tLo x_6.snd.fst.fst x_6.snd.fst.snd x_6.snd.snd = x_8.fst.fst) ∧ True ∧ x_6.fst.snd + tHi x_6.snd.fst.fst x_6.snd.fst.snd x_6.snd.snd = x_8.fst.snd) ∧ (True ∧ (True ∧ True ∧ x_7 (8 : Nat) = x_8.snd.fst.fst) ∧ True ∧ x_7 ((8 : Nat) + (1 : Nat)) = x_8.snd.fst.snd) ∧ (True ∧ x_2.fst.net x_2.snd.toNat ((0 : Nat) + (nat_lit 3 + (1 : Nat))) - h = x_8.snd.snd) ∧ True) ∧ (((-1000000000 : Int) ≤ x_8.fst.fst ∧ x_8.fst.fst ≤ (1000000000 : Int)) ∧ ((-1000000000 : Int) ≤ x_8.fst.snd ∧ x_8.fst.snd ≤ (1000000000 : Int)) ∧ ((-1000000000 : Int) ≤ x_8.snd.fst.fst ∧ x_8.snd.fst.fst ≤ (1000000000 : Int)) ∧ ((-1000000000 : Int) ≤ x_8.snd.fst.snd ∧ x_8.snd.fst.snd ≤ (1000000000 : Int)) ∧ ((-1000000000 : Int) ≤ x_8.snd.snd ∧ x_8.snd.snd ≤ (1000000000 : Int)) ∧ x_8.snd.fst.fst ≤ x_8.snd.fst.snd) ∧ True ∧ (True ∧ True ∧ x_8.fst.fst + tLo x_8.snd.fst.fst x_8.snd.fst.snd x_8.snd.snd = apLo x x.n (1 : Nat) (8 : Nat) i k h) ∧ True ∧ x_8.fst.snd + tHi x_8.snd.fst.fst x_8.snd.fst.snd x_8.snd.snd = apHi x x.n (1 : Nat) (8 : Nat) i k h))) (by kernel_rfl) ?_
  simp only [flq, true_and, and_true, inR, Prod.exists, Prod.forall, and_assoc, exists_and_left, exists_eq_left', exists_eq_left, forall_eq, exists_const, forall_const, loopN, loopM, fa2, fas, fas2, dup1, dup2, dup3, dup4, ite_true, exhs, exhn, exhz, exho, exs1, exn1, exz1, exo1, exs2, exn2, exz2, exo2, exs3, exn3, exz3, exo3, exs4, exn4, exz4, exo4, exs5, exn5, exz5, exo5, exs6, exn6, exz6, exo6, exs7, exn7, exz7, exo7, exs8, exn8, exz8, exo8, exs9, exn9, exz9, exo9, ex1, ex2, ex3, ex4, ex5, beqI, bneI, decide_true, Bool.true_and, decide_eq_true_eq, decide_eq_false_iff_not, ne_eq, Decidable.not_not]
  simp only [Int.toNat_natCast, Nat.reduceAdd]
  obtain ⟨hc, ⟨w1, w2, w3⟩, hi, hk, h0, h24⟩ := (show ChkW x ∧ x.wf ∧ i < x.k ∧ k < x.k ∧ 0 ≤ h ∧ h ≤ 24 from ha)
  obtain ⟨_, ⟨i1, i2⟩, _, _, ⟨i3, i4⟩, _, _, i5, i6, i7⟩ := chkW_net hc hi
  obtain ⟨_, ⟨k1, k2⟩, _, _, ⟨k3, k4⟩, _, _, k5, k6, k7⟩ := chkW_net hc hk
  obtain ⟨s1, s2, s3, _⟩ := chkW_size hc
  have hf : ∀ j, j < x.hE → -200 ≤ x.n j 0 ∧ x.n j 0 ≤ x.n j 1 ∧ x.n j 1 ≤ 200 := fun j hj => (chkW_hour hc hj).2
  have lb : (-44800 ≤ bLo x x.n 1 i k ∧ bLo x x.n 1 i k ≤ 44800) ∧ -44800 ≤ bHi x x.n 1 i k ∧ bHi x x.n 1 i k ≤ 44800 := by
    obtain ⟨⟨b1, b2⟩, b3, b4⟩ := d_bd (t := 1) (n := (x.net k 4 - x.net i 4).toNat) (a := x.net i 4) hf (.inl rfl) (by omega) (by omega)
    unfold bLo bHi
    omega
  obtain ⟨⟨lb1, lb2⟩, lb3, lb4⟩ := lb
  refine ⟨x, rfl, fun _ _ => ⟨rfl, rfl⟩, rfl, fun _ _ => ⟨rfl, rfl⟩, rfl, rfl, fun _ _ => ⟨rfl, rfl, rfl, rfl, rfl, rfl, rfl, rfl, rfl, rfl⟩, w1, w2, w3, by omega, by omega, x, rfl, fun _ _ => ⟨rfl, rfl⟩, rfl, fun _ _ => ⟨rfl, rfl⟩, rfl, rfl, fun _ _ => ⟨rfl, rfl, rfl, rfl, rfl, rfl, rfl, rfl, rfl, rfl⟩, w1, w2, w3, by omega, by omega, x.net i, rfl, rfl, rfl, rfl, rfl, rfl, rfl, rfl, rfl, rfl, x.net k, rfl, rfl, rfl, rfl, rfl, rfl, rfl, rfl, rfl, rfl, by omega, by omega, ⟨0, Nat.zero_le _, by simp, by simp [dLo, sumN], by simp [dHi, sumN]⟩, fun g hg => ⟨fun hlt => ?_, fun hge => ⟨?_, fun g2 hg2 => ⟨fun hlt2 => ?_, fun hge2 => ?_⟩⟩⟩⟩
  · have eT : (x.net i 4 + (g : Int)).toNat = (x.net i 4).toNat + g := by omega
    obtain ⟨⟨b1, b2⟩, b3, b4⟩ := d_bd (t := 1) (n := g) (a := x.net i 4) hf (.inl rfl) (by omega) (by omega)
    obtain ⟨f1, f2, f3⟩ := hf ((x.net i 4).toNat + g) (by omega)
    have t1 : dLo x.n (x.net i 4) 1 (g + 1) = dLo x.n (x.net i 4) 1 g + tLo (x.n ((x.net i 4).toNat + g) 0) (x.n ((x.net i 4).toNat + g) 1) 1 := rfl
    have t2 : dHi x.n (x.net i 4) 1 (g + 1) = dHi x.n (x.net i 4) 1 g + tHi (x.n ((x.net i 4).toNat + g) 0) (x.n ((x.net i 4).toNat + g) 1) 1 := rfl
    simp only [eT]
    exact ⟨x, rfl, fun _ _ => ⟨rfl, rfl⟩, rfl, fun _ _ => ⟨rfl, rfl⟩, rfl, rfl, fun _ _ => ⟨rfl, rfl, rfl, rfl, rfl, rfl, rfl, rfl, rfl, rfl⟩, w1, w2, w3, by omega, by omega, by omega, by omega, by omega, by omega, by omega, by omega, by omega, by omega, by omega, by omega, by omega, by omega, by omega, g + 1, by omega, by omega, by omega, by rw [t1]; omega, by rw [t2]; omega⟩
  · have eg : g = (x.net k 4 - x.net i 4).toNat := by omega
    exact ⟨0, Nat.zero_le _, by simp, by rw [eg]; exact (Int.add_zero _).symm, by rw [eg]; exact (Int.add_zero _).symm⟩
  · have eT : (x.net k 4 + (g2 : Int)).toNat = (x.net k 4).toNat + g2 := by omega
    obtain ⟨⟨b1, b2⟩, b3, b4⟩ := d_bd (t := -1) (n := g2) (a := x.net k 4) hf (.inr rfl) (by omega) (by omega)
    obtain ⟨f1, f2, f3⟩ := hf ((x.net k 4).toNat + g2) (by omega)
    have t1 : dLo x.n (x.net k 4) (-1) (g2 + 1) = dLo x.n (x.net k 4) (-1) g2 + tLo (x.n ((x.net k 4).toNat + g2) 0) (x.n ((x.net k 4).toNat + g2) 1) (-1) := rfl
    have t2 : dHi x.n (x.net k 4) (-1) (g2 + 1) = dHi x.n (x.net k 4) (-1) g2 + tHi (x.n ((x.net k 4).toNat + g2) 0) (x.n ((x.net k 4).toNat + g2) 1) (-1) := rfl
    simp only [eT]
    exact ⟨x, rfl, fun _ _ => ⟨rfl, rfl⟩, rfl, fun _ _ => ⟨rfl, rfl⟩, rfl, rfl, fun _ _ => ⟨rfl, rfl, rfl, rfl, rfl, rfl, rfl, rfl, rfl, rfl⟩, w1, w2, w3, by omega, by omega, by omega, by omega, by omega, by omega, by omega, by omega, by omega, by omega, by omega, by omega, by omega, by omega, by omega, g2 + 1, by omega, by omega, by omega, by rw [t1]; omega, by rw [t2]; omega⟩
  · have eg : g2 = (x.net i 4 - x.net k 4).toNat := by omega
    obtain ⟨⟨b1, b2⟩, b3, b4⟩ := d_bd (t := -1) (n := g2) (a := x.net k 4) hf (.inr rfl) (by omega) (by omega)
    obtain ⟨⟨u1, u2⟩, u3, u4⟩ := t_bd (n := h - x.net i 4) i5 i6 i7 (by omega) (by omega)
    obtain ⟨⟨v1, v2⟩, v3, v4⟩ := t_bd (n := x.net k 4 - h) k5 k6 k7 (by omega) (by omega)
    refine ⟨x.net i, rfl, rfl, rfl, rfl, rfl, rfl, rfl, rfl, rfl, rfl, by omega, by omega, by omega, by omega, by omega, by omega, by omega, by omega, by omega, by omega, by omega, by omega, by omega, x.net k, rfl, rfl, rfl, rfl, rfl, rfl, rfl, rfl, rfl, rfl, by omega, by omega, by omega, by omega, by omega, by omega, by omega, by omega, by omega, by omega, by omega, by omega, by omega, ?_, ?_⟩
    · rw [eg]; rfl
    · rw [eg]; rfl
end Go.Proofs.YtcfmdhlohahhcaaDoor
set_option linter.unusedSimpArgs false
set_option linter.unusedVariables false
namespace Nm
open Go Go.Sx
def nh (A B : Int) (j : Nat) : Int := (if A ≤ j then 1 else 0) - (if B ≤ j then 1 else 0)
def rLo (f : Nat → Nat → Int) (A B : Int) (n : Nat) : Int := sumN (fun j => tLo (f j 0) (f j 1) (nh A B j)) n
def rHi (f : Nat → Nat → Int) (A B : Int) (n : Nat) : Int := sumN (fun j => tHi (f j 0) (f j 1) (nh A B j)) n
theorem nh_is (A B : Int) (j : Nat) : nh A B j = -1 ∨ nh A B j = 0 ∨ nh A B j = 1 := by
  unfold nh
  split <;> split <;> simp
theorem r_bd {f : Nat → Nat → Int} {H : Nat} (hf : ∀ j, j < H → -200 ≤ f j 0 ∧ f j 0 ≤ f j 1 ∧ f j 1 ≤ 200) {A B : Int} {n : Nat} (ha : n ≤ H) (hn : n ≤ 24) :
    (-4800 ≤ rLo f A B n ∧ rLo f A B n ≤ 4800) ∧ -4800 ≤ rHi f A B n ∧ rHi f A B n ≤ 4800 := by
  have h1 := sumN_bd (g := fun j => tLo (f j 0) (f j 1) (nh A B j)) (c := 200) (n := n) (fun j hj => by
    have := hf j (by omega)
    show -200 ≤ tLo (f j 0) (f j 1) (nh A B j) ∧ tLo (f j 0) (f j 1) (nh A B j) ≤ 200
    rcases nh_is A B j with e | e | e <;> rw [e] <;> unfold tLo <;> simp <;> omega)
  have h2 := sumN_bd (g := fun j => tHi (f j 0) (f j 1) (nh A B j)) (c := 200) (n := n) (fun j hj => by
    have := hf j (by omega)
    show -200 ≤ tHi (f j 0) (f j 1) (nh A B j) ∧ tHi (f j 0) (f j 1) (nh A B j) ≤ 200
    rcases nh_is A B j with e | e | e <;> rw [e] <;> unfold tHi <;> simp <;> omega)
  have e1 : sumN (fun j => tLo (f j 0) (f j 1) (nh A B j)) n = rLo f A B n := rfl
  have e2 : sumN (fun j => tHi (f j 0) (f j 1) (nh A B j)) n = rHi f A B n := rfl
  rw [e1] at h1
  rw [e2] at h2
  omega
theorem sumN_split {g : Nat → Int} {a : Nat} : ∀ b, sumN g (a + b) = sumN g a + sumN (fun j => g (a + j)) b
  | 0 => (Int.add_zero _).symm
  | b + 1 => by
    rw [show a + (b + 1) = a + b + 1 by omega, sumN, sumN_split b, sumN]
    omega
theorem sumN_zero {g : Nat → Int} {n : Nat} (h : ∀ j, j < n → g j = 0) : sumN g n = 0 := by
  induction n with
  | zero => rfl
  | succ n ih => rw [sumN, ih (fun j hj => h j (by omega)), h n (by omega)]; rfl
theorem sumN_congr {g g' : Nat → Int} {n : Nat} (h : ∀ j, j < n → g j = g' j) : sumN g n = sumN g' n := by
  induction n with
  | zero => rfl
  | succ n ih => rw [sumN, sumN, ih (fun j hj => h j (by omega)), h n (by omega)]
theorem t_zero (l h : Int) : tLo l h 0 = 0 ∧ tHi l h 0 = 0 := by simp [tLo, tHi]
theorem r_same {A B : Int} (hA : 0 ≤ A) (hB : 0 ≤ B) {n : Nat} (h1 : A ≤ n) (h2 : B ≤ n) (t : Int → Int → Int → Int) (ht : ∀ l h, t l h 0 = 0) (f : Nat → Nat → Int) :
    sumN (fun j => t (f j 0) (f j 1) (nh A B j)) n = sumN (fun j => t (f (A.toNat + j) 0) (f (A.toNat + j) 1) 1) (B - A).toNat + sumN (fun j => t (f (B.toNat + j) 0) (f (B.toNat + j) 1) (-1)) (A - B).toNat := by
  by_cases hab : A ≤ B
  · obtain ⟨c, hc⟩ : ∃ c : Nat, B.toNat = A.toNat + c := ⟨B.toNat - A.toNat, by omega⟩
    obtain ⟨d, hd⟩ : ∃ d : Nat, n = A.toNat + (c + d) := ⟨n - B.toNat, by omega⟩
    rw [hd, sumN_split, sumN_split (a := c), show (B - A).toNat = c by omega, show (A - B).toNat = 0 by omega]
    rw [sumN_zero (n := A.toNat) (fun j hj => by
      rw [show nh A B j = 0 by unfold nh; rw [if_neg (by omega), if_neg (by omega)]; rfl]; exact ht _ _)]
    rw [sumN_zero (n := d) (fun j hj => by
      rw [show nh A B (A.toNat + (c + j)) = 0 by unfold nh; rw [if_pos (by omega), if_pos (by omega)]; rfl]; exact ht _ _)]
    rw [sumN_congr (n := c) (g' := fun j => t (f (A.toNat + j) 0) (f (A.toNat + j) 1) 1) (fun j hj => by
      rw [show nh A B (A.toNat + j) = 1 by unfold nh; rw [if_pos (by omega), if_neg (by omega)]; rfl])]
    show 0 + (_ + 0) = _ + 0
    omega
  · obtain ⟨c, hc⟩ : ∃ c : Nat, A.toNat = B.toNat + c := ⟨A.toNat - B.toNat, by omega⟩
    obtain ⟨d, hd⟩ : ∃ d : Nat, n = B.toNat + (c + d) := ⟨n - A.toNat, by omega⟩
    rw [hd, sumN_split, sumN_split (a := c), show (A - B).toNat = c by omega, show (B - A).toNat = 0 by omega]
    rw [sumN_zero (n := B.toNat) (fun j hj => by
      rw [show nh A B j = 0 by unfold nh; rw [if_neg (by omega), if_neg (by omega)]; rfl]; exact ht _ _)]
    rw [sumN_zero (n := d) (fun j hj => by
      rw [show nh A B (B.toNat + (c + j)) = 0 by unfold nh; rw [if_pos (by omega), if_pos (by omega)]; rfl]; exact ht _ _)]
    rw [sumN_congr (n := c) (g' := fun j => t (f (B.toNat + j) 0) (f (B.toNat + j) 1) (-1)) (fun j hj => by
      rw [show nh A B (B.toNat + j) = -1 by unfold nh; rw [if_neg (by omega), if_pos (by omega)]; rfl])]
    show 0 + (_ + 0) = 0 + _
    omega
end Nm
set_option linter.unusedSimpArgs false
set_option linter.unusedVariables false
namespace Go.Proofs.YtcfmdhlohahhcaaDoor
open Go Go.Sx Nm
set_option maxRecDepth 100000
structure RAsk where
  n : Nat
  f : Nat → Nat → Int
  a : Nat → Int
  b : Nat → Int
  off : Int
  l : Int
  u : Int
  l2 : Int
  u2 : Int
  h : Nat
def RAsk.ok (r : RAsk) : Prop := r.h ≤ r.n ∧ r.n ≤ 24 ∧ (∀ j, j < r.n → -200 ≤ r.f j 0 ∧ r.f j 0 ≤ r.f j 1 ∧ r.f j 1 ≤ 200) ∧ (-40000 ≤ r.off ∧ r.off ≤ 40000) ∧ (-50 ≤ r.l ∧ r.l ≤ r.u ∧ r.u ≤ 50) ∧ (-50 ≤ r.l2 ∧ r.l2 ≤ r.u2 ∧ r.u2 ≤ 50) ∧ (0 ≤ r.a 4 ∧ r.a 4 ≤ 24) ∧ 0 ≤ r.b 4 ∧ r.b 4 ≤ 24
def raLo (r : RAsk) : Int := r.off + rLo r.f (r.a 4) (r.b 4) r.h + (tLo r.l r.u (r.h - r.a 4) + tLo r.l2 r.u2 (r.b 4 - r.h))
def raHi (r : RAsk) : Int := r.off + rHi r.f (r.a 4) (r.b 4) r.h + (tHi r.l r.u (r.h - r.a 4) + tHi r.l2 r.u2 (r.b 4 - r.h))
def sRAp : Sig := ⟨RAsk, fun r => [.c (spansCV r.n r.f), arrTV 10 r.a, arrTV 10 r.b, intC r.off, spanTV r.l r.u, spanTV r.l2 r.u2, intC r.h], RAsk.ok, fun r => [.v (spanTV (raLo r) (raHi r))]⟩
def aH1 (r : RAsk) : Ann := { G := Nat, ok := fun _ g => g ≤ r.h, dom := fun st => [osN (st.tm 15)], tm := fun _ g => [(16, .t (intC g))], hp := fun st g => [(osN (st.tm 15), .self, some (.box 2 (ofList [.int .i64 (r.off + rLo r.f (r.a 4) (r.b 4) g), .int .i64 (r.off + rHi r.f (r.a 4) (r.b 4) g)])))], mu := fun _ g => r.h - g }
def aH2 (r : RAsk) : Ann := { G := Nat, ok := fun st g => (match st.tm 16 with | .t (.c (.int _ m)) => m = g | _ => False), dom := fun _ => [], tm := fun _ g => [(17, .t (intC (nh (r.a 4) (r.b 4) g)))], hp := fun _ _ => [], mu := fun _ _ => 0 }
theorem q98 (r : sRAp.α) (hr : sRAp.pre r) : CallQ Tryd.prog E0 98 (sRAp.arg r) (sRAp.res r) := by
  refine bare_tight E0_ok TF TF_ok [] EvensOk.nil runs [(98, 3, aH1 r)] [(98, 10, aH2 r)] [] [] [] [] (fuel := 5) ?_
  refine of_red (q := (∃ (g : Nat), g ≤ r.h ∧ True ∧ ((True ∧ (0 : Int) = (↑g : Int)) ∧ True) ∧ (True ∧ (True ∧ True ∧ r.off = r.off + rLo r.f (r.a (4 : Nat)) (r.b (4 : Nat)) g) ∧ True ∧ r.off = r.off + rHi r.f (r.a (4 : Nat)) (r.b (4 : Nat)) g) ∧ True) ∧ ∀ (g : Nat), g ≤ r.h → (decide ((↑g : Int) < (↑r.h : Int)) = true → (decide (r.a ((0 : Nat) + (nat_lit 3 + (1 : Nat))) ≤ (↑g : Int)) = true → inRange IntKind.i64 ((0 : Int) + (1 : Int)) ∧ ((decide (r.b ((0 : Nat) + (nat_lit 3 + (1 : Nat))) ≤ (↑g : Int)) = true → inRange IntKind.i64 ((0 : Int) + (1 : Int) - (1 : Int)) ∧ ∃ (g_1 : Nat), (↑g : Int) = (↑g_1 : Int) ∧ True ∧ ((True ∧ (0 : Int) + (1 : Int) - (1 : Int) = nh (r.a (4 : Nat)) (r.b (4 : Nat)) g_1) ∧ True) ∧ True) ∧ (decide (r.b ((0 : Nat) + (nat_lit 3 + (1 : Nat))) ≤ (↑g : Int)) = false → ∃ (g_1 : Nat), (↑g : Int) = (↑g_1 : Int) ∧ True ∧ ((True ∧ (0 : Int) + (1 : Int) = nh (r.a (4 : Nat)) (r.b (4 : Nat)) g_1) ∧ True) ∧ True)) ∧ ∀ (g_1 : Nat), (↑g : Int) = (↑g_1 : Int) → (0 : Int) ≤ (↑g : Int) ∧ (↑g : Int) < (↑r.n : Int) ∧ ∃ (x : (Int × Int) × Int), ((True ∧ (True ∧ True ∧ r.f g 0 = x.fst.fst) ∧ True ∧ r.f g 1 = x.fst.snd) ∧ (True ∧ nh (r.a (4 : Nat)) (r.b (4 : Nat)) g_1 = x.snd) ∧ True) ∧ (((-1000000000 : Int) ≤ x.fst.fst ∧ x.fst.fst ≤ (1000000000 : Int)) ∧ ((-1000000000 : Int) ≤ x.fst.snd ∧ x.fst.snd ≤ (1000000000 : Int)) ∧ (-1000000000 : Int) ≤ x.snd ∧ x.snd ≤ (1000000000 : Int)) ∧ ∃ (x_1 : (Int × Int) × Int × Int), ((True ∧ (True ∧ True ∧ r.off + rLo r.f (r.a (4 : Nat)) (r.b (4 : Nat)) g = x_1.fst.fst) ∧ True ∧ r.off + rHi r.f (r.a (4 : Nat)) (r.b (4 : Nat)) g = x_1.fst.snd) ∧ (True ∧ (True ∧ True ∧ tLo x.fst.fst x.fst.snd x.snd = x_1.snd.fst) ∧ True ∧ tHi x.fst.fst x.fst.snd x.snd = x_1.snd.snd) ∧ True) ∧ (((-9223372036854775808 : Int) ≤ x_1.fst.fst + x_1.snd.fst ∧ x_1.fst.fst + x_1.snd.fst ≤ (9223372036854775807 : Int)) ∧ (-9223372036854775808 : Int) ≤ x_1.fst.snd + x_1.snd.snd ∧ x_1.fst.snd + x_1.snd.snd ≤ (9223372036854775807 : Int)) ∧ inRange IntKind.i64 ((↑g : Int) + (1 : Int)) ∧ ∃ (g' : Nat), g' ≤ r.h ∧ r.h - g' < r.h - g ∧ True ∧ ((True ∧ (↑g : Int) + (1 : Int) = (↑g' : Int)) ∧ True) ∧ (True ∧ (True ∧ True ∧ x_1.fst.fst + x_1.snd.fst = r.off + rLo r.f (r.a (4 : Nat)) (r.b (4 : Nat)) g') ∧ True ∧ x_1.fst.snd + x_1.snd.snd = r.off + rHi r.f (r.a (4 : Nat)) (r.b (4 : Nat)) g') ∧ True) ∧ (decide (r.a ((0 : Nat) + (nat_lit 3 + (1 : Nat))) ≤ (↑g : Int)) = false → ((decide (r.b ((0 : Nat) + (nat_lit 3 + (1 : Nat))) ≤ (↑g : Int)) = true → inRange IntKind.i64 ((0 : Int) - (1 : Int)) ∧ ∃ (g_1 : Nat), (↑g : Int) = (↑g_1 : Int) ∧ True ∧ ((True ∧ (0 : Int) - (1 : Int) = nh (r.a (4 : Nat)) (r.b (4 : Nat)) g_1) ∧ True) ∧ True) ∧ (decide (r.b ((0 : Nat) + (nat_lit 3 + (1 : Nat))) ≤ (↑g : Int)) = false → ∃ (g_1 : Nat), (↑g : Int) = (↑g_1 : Int) ∧ True ∧ ((True ∧ (0 : Int) = nh (r.a (4 : Nat)) (r.b (4 : Nat)) g_1) ∧ True) ∧ True)) ∧ ∀ (g_1 : Nat), (↑g : Int) = (↑g_1 : Int) → (0 : Int) ≤ (↑g : Int) ∧ (↑g : Int) < (↑r.n : Int) ∧ ∃ (x : (Int × Int) × Int), ((True ∧ (True ∧ True ∧ r.f g 0 = x.fst.fst) ∧ True ∧ r.f g 1 = x.fst.snd) ∧ (True ∧ nh (r.a (4 : Nat)) (r.b (4 : Nat)) g_1 = x.snd) ∧ True) ∧ (((-1000000000 : Int) ≤ x.fst.fst ∧ x.fst.fst ≤ (1000000000 : Int)) ∧ ((-1000000000 : Int) ≤ x.fst.snd ∧ x.fst.snd ≤ (1000000000 : Int)) ∧ (-1000000000 : Int) ≤ x.snd ∧ x.snd ≤ (1000000000 : Int)) ∧ ∃ (x_1 : (Int × Int) × Int × Int), ((True ∧ (True ∧ True ∧ r.off + rLo r.f (r.a (4 : Nat)) (r.b (4 : Nat)) g = x_1.fst.fst) ∧ True ∧ r.off + rHi r.f (r.a (4 : Nat)) (r.b (4 : Nat)) g = x_1.fst.snd) ∧ (True ∧ (True ∧ True ∧ tLo x.fst.fst x.fst.snd x.snd = x_1.snd.fst) ∧ True ∧ tHi x.fst.fst x.fst.snd x.snd = x_1.snd.snd) ∧ True) ∧ (((-9223372036854775808 : Int) ≤ x_1.fst.fst + x_1.snd.fst ∧ x_1.fst.fst + x_1.snd.fst ≤ (9223372036854775807 : Int)) ∧ (-9223372036854775808 : Int) ≤ x_1.fst.snd + x_1.snd.snd ∧ x_1.fst.snd + x_1.snd.snd ≤ (9223372036854775807 : Int)) ∧ inRange IntKind.i64 ((↑g : Int) + (1 : Int)) ∧ ∃ (g' : Nat), g' ≤ r.h ∧ r.h - g' < r.h - g ∧ True ∧ ((True ∧ (↑g : Int) + (1 : Int) = (↑g' : Int)) ∧ True) ∧ (True ∧ (True ∧ True ∧ x_1.fst.fst + x_1.snd.fst = r.off + rLo r.f (r.a (4 : Nat)) (r.b (4 : Nat)) g') ∧ True ∧ x_1.fst.snd + x_1.snd.snd = r.off + rHi r.f (r.a (4 : Nat)) (r.b (4 : Nat)) g') ∧ True)) ∧ (decide ((↑g : Int) < (↑r.h : Int)) = false → inRange IntKind.i64 ((↑r.h : Int) - r.a ((0 : Nat) + (nat_lit 3 + (1 : Nat)))) ∧ ∃ (x : (Int × Int) × Int), ((True ∧ (True ∧ True ∧ r.l = x.fst.fst) ∧ True ∧ r.u = x.fst.snd) ∧ (True ∧ (↑r.h : Int) - r.a ((0 : Nat) + (nat_lit 3 + (1 : Nat))) = x.snd) ∧ True) ∧ (((-1000000000 : Int) ≤ x.fst.fst ∧ x.fst.fst ≤ (1000000000 : Int)) ∧ ((-1000000000 : Int) ≤ x.fst.snd ∧ x.fst.snd ≤ (1000000000 : Int)) ∧ (-1000000000 : Int) ≤ x.snd ∧ x.snd ≤ (1000000000 : Int)) ∧ inRange IntKind.i64 (r.b ((0 : Nat) + (nat_lit 3 + (1 : Nat))) - (↑r.h : Int)) ∧ ∃ (x_1 : (Int × Int) × Int), ((True ∧ (True ∧ True ∧ r.l2 = x_1.fst.fst) ∧ True ∧ r.u2 = x_1.fst.snd) ∧ (True ∧ r.b ((0 : Nat) + (nat_lit 3 + (1 : Nat))) - (↑r.h : Int) = x_1.snd) ∧ True) ∧ (((-1000000000 : Int) ≤ x_1.fst.fst ∧ x_1.fst.fst ≤ (1000000000 : Int)) ∧ ((-1000000000 : Int) ≤ x_1.fst.snd ∧ x_1.fst.snd ≤ (1000000000 : Int)) ∧ (-1000000000 : Int) ≤ x_1.snd ∧ x_1.snd ≤ (1000000000 : Int)) ∧ ∃ (x_2 : (Int × Int) × Int × Int), ((True ∧ (True ∧ True ∧ tLo x.fst.fst x.fst.snd x.snd = x_2.fst.fst) ∧ True ∧ tHi x.fst.fst x.fst.snd x.snd = x_2.fst.snd) ∧ (True ∧ (True ∧ True ∧ tLo x_1.fst.fst x_1.fst.snd x_1.snd = x_2.snd.fst) ∧ True ∧ tHi x_1.fst.fst x_1.fst.snd x_1.snd = x_2.snd.snd) ∧ True) ∧ (((-9223372036854775808 : Int) ≤ x_2.fst.fst + x_2.snd.fst ∧ x_2.fst.fst + x_2.snd.fst ≤ (9223372036854775807 : Int)) ∧ (-9223372036854775808 : Int) ≤ x_2.fst.snd + x_2.snd.snd ∧ x_2.fst.snd + x_2.snd.snd ≤ (9223372036854775807 : Int)) ∧ ∃ (x : (Int × Int) × Int × Int), ((True ∧ (True ∧ True ∧ r.off + rLo r.f (r.a (4 : Nat)) (r.b (4 : Nat)) g = x.fst.fst) ∧ True ∧ r.off + rHi r.f (r.a (4 : Nat)) (r.b (4 : Nat)) g = x.fst.snd) ∧ (True ∧ (True ∧ True ∧ x_2.fst.fst + x_2.snd.fst = x.snd.fst) ∧ True ∧ x_2.fst.snd + x_2.snd.snd = x.snd.snd) ∧ True) ∧ (((-9223372036854775808 : Int) ≤ x.fst.fst + x.snd.fst ∧ x.fst.fst + x.snd.fst ≤ (9223372036854775807 : Int)) ∧ (-9223372036854775808 : Int) ≤ x.fst.snd + x.snd.snd ∧ x.fst.snd + x.snd.snd ≤ (9223372036854775807 : Int)) ∧ True ∧ (True ∧ True ∧ x.fst.fst + x.snd.fst = raLo r) ∧ True ∧ x.fst.snd + x.snd.snd = raHi r)) (by kernel_rfl) ?_
  simp only [true_and, and_true, inR, Prod.exists, Prod.forall, and_assoc, exists_and_left, exists_eq_left', exists_eq_left, forall_eq, exists_const, forall_const, loopN, loopM, fa2, fas, fas2, dup1, dup2, dup3, dup4, ite_true, exhs, exhn, exhz, exho, exs1, exn1, exz1, exo1, exs2, exn2, exz2, exo2, exs3, exn3, exz3, exo3, exs4, exn4, exz4, exo4, exs5, exn5, exz5, exo5, exs6, exn6, exz6, exo6, exs7, exn7, exz7, exo7, exs8, exn8, exz8, exo8, exs9, exn9, exz9, exo9, ex1, ex2, ex3, ex4, ex5, beqI, bneI, decide_true, Bool.true_and, decide_eq_true_eq, decide_eq_false_iff_not, ne_eq, Decidable.not_not]
  simp only [Int.toNat_natCast, Nat.reduceAdd]
  obtain ⟨n, f, a, b, off, l, u, l2, u2, h⟩ := r
  obtain ⟨h1, h2, hf, ⟨o1, o2⟩, ⟨l1, l3, l4⟩, ⟨m1, m2, m3⟩, ⟨a1, a2⟩, b1, b2⟩ := (show h ≤ n ∧ n ≤ 24 ∧ (∀ j, j < n → -200 ≤ f j 0 ∧ f j 0 ≤ f j 1 ∧ f j 1 ≤ 200) ∧ (-40000 ≤ off ∧ off ≤ 40000) ∧ (-50 ≤ l ∧ l ≤ u ∧ u ≤ 50) ∧ (-50 ≤ l2 ∧ l2 ≤ u2 ∧ u2 ≤ 50) ∧ (0 ≤ a 4 ∧ a 4 ≤ 24) ∧ 0 ≤ b 4 ∧ b 4 ≤ 24 from hr)
  simp only
  obtain ⟨⟨d1, d2⟩, d3, d4⟩ := r_bd (A := a 4) (B := b 4) (n := h) hf h1 (by omega)
  obtain ⟨⟨u3, u4⟩, u5, u6⟩ := t_bd (n := (h : Int) - a 4) l1 l3 l4 (by omega) (by omega)
  obtain ⟨⟨v1, v2⟩, v3, v4⟩ := t_bd (n := b 4 - (h : Int)) m1 m2 m3 (by omega) (by omega)
  refine ⟨⟨0, by omega, rfl, by simp [rLo, sumN], by simp [rHi, sumN]⟩, fun g hg => ?_, by omega, by omega, by omega, by omega, by omega, by omega, by omega, by omega, by omega, by omega, by omega, by omega, by omega, by omega, by omega, by omega, by omega, by omega, by omega, by omega, by omega, by omega, by omega, by omega, rfl, rfl⟩
  obtain ⟨⟨c1, c2⟩, c3, c4⟩ := r_bd (A := a 4) (B := b 4) (n := g) hf (by omega) (by omega)
  obtain ⟨f1, f2, f3⟩ := hf g (by omega)
  have t1 : rLo f (a 4) (b 4) (g + 1) = rLo f (a 4) (b 4) g + tLo (f g 0) (f g 1) (nh (a 4) (b 4) g) := rfl
  have t2 : rHi f (a 4) (b 4) (g + 1) = rHi f (a 4) (b 4) g + tHi (f g 0) (f g 1) (nh (a 4) (b 4) g) := rfl
  have q1 : -200 ≤ tLo (f g 0) (f g 1) (nh (a 4) (b 4) g) ∧ tLo (f g 0) (f g 1) (nh (a 4) (b 4) g) ≤ 200 := by
    rcases nh_is (a 4) (b 4) g with e | e | e <;> rw [e] <;> unfold tLo <;> simp <;> omega
  have q2 : -200 ≤ tHi (f g 0) (f g 1) (nh (a 4) (b 4) g) ∧ tHi (f g 0) (f g 1) (nh (a 4) (b 4) g) ≤ 200 := by
    rcases nh_is (a 4) (b 4) g with e | e | e <;> rw [e] <;> unfold tHi <;> simp <;> omega
  obtain ⟨q3, q4⟩ := q1
  obtain ⟨q5, q6⟩ := q2
  have q7 := nh_is (a 4) (b 4) g
  refine ⟨fun ha => ⟨by omega, by omega, fun hb => ⟨by omega, by omega, by simp [nh, ha, hb]⟩, fun hb => by simp [nh, ha, hb], by omega, by omega, by omega, by omega, by omega, by omega, by omega, by omega, by omega, by omega, by omega, by omega, by omega, by omega, g + 1, by omega, by omega, by omega, by rw [t1]; omega, by rw [t2]; omega⟩, fun ha => ⟨fun hb => ⟨by omega, by omega, by simp [nh, ha, hb]⟩, fun hb => by simp [nh, ha, hb], by omega, by omega, by omega, by omega, by omega, by omega, by omega, by omega, by omega, by omega, by omega, by omega, by omega, by omega, g + 1, by omega, by omega, by omega, by rw [t1]; omega, by rw [t2]; omega⟩⟩
end Go.Proofs.YtcfmdhlohahhcaaDoor
