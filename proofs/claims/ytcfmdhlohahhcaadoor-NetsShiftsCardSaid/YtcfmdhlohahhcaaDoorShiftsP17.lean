/- Texts for the law of the last part, part 17. -/
import Derived.Test.YtcfmdhlohahhcaaDoorShiftsP16
set_option linter.unusedSimpArgs false
set_option linter.unusedVariables false
set_option linter.unusedSimpArgs false
set_option linter.unusedVariables false
namespace Go.Proofs.YtcfmdhlohahhcaaDoor
open Go Go.Sx Nm
set_option maxRecDepth 100000
def sClear : Sig := ⟨Fleet × Nat, fun a => [fleetTV a.1, intC a.2], fun a => ChkW a.1 ∧ a.1.wf ∧ a.2 < a.1.k, fun a => [.v (.c (.bool (clR a.1 a.2)))]⟩
def aAD1 (y : Fleet) (k : Nat) : Ann := { G := Nat, ok := fun _ g => g ≤ y.hE + 1 ∧ ∀ h, h < g → ∀ i, i < y.k → i ≠ k → canB ⟨y, i, k, h⟩ = false, dom := fun _ => [], tm := fun _ g => [(5, .t (intC g))], hp := fun _ _ => [], mu := fun _ g => y.hE + 1 - g }
def aAD2 (y : Fleet) (k : Nat) : Ann := { G := Nat × Nat, ok := fun st g => isI (st.tm 5) g.2 ∧ g.1 ≤ y.k ∧ ∀ i, i < g.1 → i ≠ k → canB ⟨y, i, k, g.2⟩ = false, dom := fun _ => [], tm := fun _ g => [(6, .t (intC g.1))], hp := fun _ _ => [], mu := fun _ g => y.k - g.1 }
theorem q72 (a : sClear.α) (ha : sClear.pre a) : CallQ Tryd.prog E0 72 (sClear.arg a) (sClear.res a) := by
  obtain ⟨y, k⟩ := a
  refine bare_say E0_ok TAB TAB_ok [] EvensOk.nil runs { l := [(72, 2, aAD1 y k), (72, 5, aAD2 y k)] } (fuel := 8) ?_
  refine of_red (q := (∃ (g : Nat), (g ≤ y.hE + (1 : Nat) ∧ ∀ (h : Nat), h < g → ∀ (i : Nat), i < y.k → i ≠ k → canB { x := y, i := i, k := k, h := h } = false) ∧ True ∧ ((True ∧ (0 : Int) = (↑g : Int)) ∧ True) ∧ True) ∧ ∀ (g : Nat), (g ≤ y.hE + (1 : Nat) ∧ ∀ (h : Nat), h < g → ∀ (i : Nat), i < y.k → i ≠ k → canB { x := y, i := i, k := k, h := h } = false) → (decide ((↑g : Int) ≤ (↑y.hE : Int)) = true → (∃ (g_1 : Nat × Nat), ((↑g : Int) = (↑g_1.snd : Int) ∧ g_1.fst ≤ y.k ∧ ∀ (i : Nat), i < g_1.fst → i ≠ k → canB { x := y, i := i, k := k, h := g_1.snd } = false) ∧ True ∧ ((True ∧ (0 : Int) = (↑g_1.fst : Int)) ∧ True) ∧ True) ∧ ∀ (g_1 : Nat × Nat), ((↑g : Int) = (↑g_1.snd : Int) ∧ g_1.fst ≤ y.k ∧ ∀ (i : Nat), i < g_1.fst → i ≠ k → canB { x := y, i := i, k := k, h := g_1.snd } = false) → (decide ((↑g_1.fst : Int) < (↑y.k : Int)) = true → (((↑g_1.fst : Int) != (↑k : Int)) = true → ∃ (x : BAsk), ((True ∧ (((True ∧ True ∧ True ∧ y.hE = x.x.hE ∧ ∀ (i : Nat), i < y.hE → (True ∧ y.e i (nat_lit 0) = x.x.e i (nat_lit 0)) ∧ y.e i (nat_lit 1) = x.x.e i (nat_lit 1)) ∧ True ∧ True ∧ y.hN = x.x.hN ∧ ∀ (i : Nat), i < y.hN → (True ∧ y.n i (nat_lit 0) = x.x.n i (nat_lit 0)) ∧ y.n i (nat_lit 1) = x.x.n i (nat_lit 1)) ∧ True ∧ y.gap = x.x.gap) ∧ True ∧ True ∧ y.k = x.x.k ∧ ∀ (i : Nat), i < y.k → (((((((((True ∧ y.net i (nat_lit 0) = x.x.net i (nat_lit 0)) ∧ y.net i (nat_lit 1) = x.x.net i (nat_lit 1)) ∧ y.net i (nat_lit 2) = x.x.net i (nat_lit 2)) ∧ y.net i (nat_lit 3) = x.x.net i (nat_lit 3)) ∧ y.net i (nat_lit 4) = x.x.net i (nat_lit 4)) ∧ y.net i (nat_lit 5) = x.x.net i (nat_lit 5)) ∧ y.net i (nat_lit 6) = x.x.net i (nat_lit 6)) ∧ y.net i (nat_lit 7) = x.x.net i (nat_lit 7)) ∧ y.net i (nat_lit 8) = x.x.net i (nat_lit 8)) ∧ y.net i (nat_lit 9) = x.x.net i (nat_lit 9)) ∧ (True ∧ (↑g_1.fst : Int) = (↑x.i : Int)) ∧ (True ∧ (↑k : Int) = (↑x.k : Int)) ∧ (True ∧ (↑g : Int) = (↑x.h : Int)) ∧ True) ∧ (ChkW x.x ∧ (x.x.hE < (4611686018427387904 : Nat) ∧ x.x.hN < (4611686018427387904 : Nat) ∧ x.x.k < (4611686018427387904 : Nat)) ∧ x.i < x.x.k ∧ x.k < x.x.k ∧ x.h ≤ x.x.hE) ∧ (canB x = true → True ∧ clR y k = false) ∧ (canB x = false → inRange IntKind.i64 ((↑g_1.fst : Int) + (1 : Int)) ∧ ∃ (g' : Nat × Nat), ((↑g : Int) = (↑g'.snd : Int) ∧ g'.fst ≤ y.k ∧ ∀ (i : Nat), i < g'.fst → i ≠ k → canB { x := y, i := i, k := k, h := g'.snd } = false) ∧ y.k - g'.fst < y.k - g_1.fst ∧ True ∧ ((True ∧ (↑g_1.fst : Int) + (1 : Int) = (↑g'.fst : Int)) ∧ True) ∧ True)) ∧ (((↑g_1.fst : Int) != (↑k : Int)) = false → inRange IntKind.i64 ((↑g_1.fst : Int) + (1 : Int)) ∧ ∃ (g' : Nat × Nat), ((↑g : Int) = (↑g'.snd : Int) ∧ g'.fst ≤ y.k ∧ ∀ (i : Nat), i < g'.fst → i ≠ k → canB { x := y, i := i, k := k, h := g'.snd } = false) ∧ y.k - g'.fst < y.k - g_1.fst ∧ True ∧ ((True ∧ (↑g_1.fst : Int) + (1 : Int) = (↑g'.fst : Int)) ∧ True) ∧ True)) ∧ (decide ((↑g_1.fst : Int) < (↑y.k : Int)) = false → inRange IntKind.i64 ((↑g : Int) + (1 : Int)) ∧ ∃ (g' : Nat), (g' ≤ y.hE + (1 : Nat) ∧ ∀ (h : Nat), h < g' → ∀ (i : Nat), i < y.k → i ≠ k → canB { x := y, i := i, k := k, h := h } = false) ∧ y.hE + (1 : Nat) - g' < y.hE + (1 : Nat) - g ∧ True ∧ ((True ∧ (↑g : Int) + (1 : Int) = (↑g' : Int)) ∧ True) ∧ True)) ∧ (decide ((↑g : Int) ≤ (↑y.hE : Int)) = false → True ∧ clR y k = true)) (by kernel_rfl) ?_
  simp only [true_and, and_true, inR, Prod.exists, Prod.forall, and_assoc, exists_and_left, exists_eq_left', exists_eq_left, forall_eq, exists_const, forall_const, loopN, loopM, fa2, fas, fas2, dup1, dup2, dup3, dup4, ite_true, exhs, exhn, exhz, exho, exs1, exn1, exz1, exo1, exs2, exn2, exz2, exo2, exs3, exn3, exz3, exo3, exs4, exn4, exz4, exo4, exs5, exn5, exz5, exo5, exs6, exn6, exz6, exo6, exs7, exn7, exz7, exo7, exs8, exn8, exz8, exo8, exs9, exn9, exz9, exo9, ex1, ex2, ex3, ex4, ex5, beqI, bneI, decide_true, Bool.true_and, decide_eq_true_eq, decide_eq_false_iff_not, ne_eq, Decidable.not_not]
  obtain ⟨hW, ⟨w1, w2, w3⟩, hk⟩ := (show ChkW y ∧ y.wf ∧ k < y.k from ha)
  obtain ⟨s1, s2, s3, s4, s5, s6, s7⟩ := hW.size
  refine ⟨by omega, fun h hh => absurd hh (Nat.not_lt_zero h), fun g ⟨hg, hG⟩ => ⟨fun hlt => ⟨by omega, fun i hi => absurd hi (Nat.not_lt_zero i), fun a b ⟨hb, ha, hA⟩ => ?_⟩, fun hge => ?_⟩⟩
  · obtain rfl : g = b := by omega
    have nx : (a ≠ k → canB ⟨y, a, k, g⟩ = false) → ∀ i, i < a + 1 → ¬i = k → canB ⟨y, i, k, g⟩ = false := fun q i hi hik => by
      by_cases c : i = a
      · subst c; exact q hik
      · exact hA i (by omega) hik
    refine ⟨fun hlt2 => ⟨fun hak => ⟨⟨y, a, k, g⟩, rfl, fun _ _ => ⟨rfl, rfl⟩, rfl, fun _ _ => ⟨rfl, rfl⟩, rfl, rfl, fun _ _ => ⟨rfl, rfl, rfl, rfl, rfl, rfl, rfl, rfl, rfl, rfl⟩, rfl, rfl, rfl, hW, w1, w2, w3, by show a < y.k; omega, hk, by show g ≤ y.hE; omega, fun hT => ?_, fun hF => ⟨by omega, by omega, by omega, nx fun _ => hF, by omega⟩⟩, fun hak => ⟨by omega, by omega, by omega, nx fun h => absurd (by omega) h, by omega⟩⟩, fun hge2 => ⟨by omega, by omega, by omega, fun h hh i hi hik => ?_, by omega⟩⟩
    · cases hs : clR y k with
      | false => rfl
      | true =>
        have := clR_iff.1 hs g (by omega) a (by omega) (by omega)
        rw [hT] at this; cases this
    · by_cases c : h = g
      · subst c; exact hA i (by omega) hik
      · exact hG h (by omega) i hi hik
  · exact clR_iff.2 fun h hh i hi hik => hG h (by omega) i hi hik
def TAD : List (Nat × Sig) := (72, sClear) :: (26, sShift) :: (20, sFouls) :: (16, sLies) :: TAB
theorem TAD_ok : SigsOk Tryd.prog E0 TAD := (((TAB_ok.cons (runs 16 (by kernel_rfl)) q16).cons (runs 20 (by kernel_rfl)) q20).cons (runs 26 (by kernel_rfl)) q26).cons (runs 72 (by kernel_rfl)) q72
def aAD3 (x : Fleet) (K n : Nat) : Ann := { G := Nat, ok := fun _ g => g ≤ n ∧ ∀ d, d < g → clrB x K d = false, dom := fun _ => [], tm := fun _ g => [(9, .t (intC g))], hp := fun _ _ => [], mu := fun _ g => n - g }
theorem q27 (a : sShift.α) (ha : sShift.pre a) : CallQ Tryd.prog E0 27 (sShift.arg a) (sShift.res a) := by
  obtain ⟨x, k, m⟩ := a
  refine bare_say E0_ok TAD TAD_ok [] EvensOk.nil runs { live := true, l := [(27, 7, aAD3 x k.toNat (m.toNat + 1))] } (fuel := 8) ?_
  refine of_red (q := ∃ (x_1 : Fleet), ((True ∧ (((True ∧ True ∧ True ∧ x.hE = x_1.hE ∧ ∀ (i : Nat), i < x.hE → (True ∧ x.e i (nat_lit 0) = x_1.e i (nat_lit 0)) ∧ x.e i (nat_lit 1) = x_1.e i (nat_lit 1)) ∧ True ∧ True ∧ x.hN = x_1.hN ∧ ∀ (i : Nat), i < x.hN → (True ∧ x.n i (nat_lit 0) = x_1.n i (nat_lit 0)) ∧ x.n i (nat_lit 1) = x_1.n i (nat_lit 1)) ∧ True ∧ x.gap = x_1.gap) ∧ True ∧ True ∧ x.k = x_1.k ∧ ∀ (i : Nat), i < x.k → (((((((((True ∧ x.net i (nat_lit 0) = x_1.net i (nat_lit 0)) ∧ x.net i (nat_lit 1) = x_1.net i (nat_lit 1)) ∧ x.net i (nat_lit 2) = x_1.net i (nat_lit 2)) ∧ x.net i (nat_lit 3) = x_1.net i (nat_lit 3)) ∧ x.net i (nat_lit 4) = x_1.net i (nat_lit 4)) ∧ x.net i (nat_lit 5) = x_1.net i (nat_lit 5)) ∧ x.net i (nat_lit 6) = x_1.net i (nat_lit 6)) ∧ x.net i (nat_lit 7) = x_1.net i (nat_lit 7)) ∧ x.net i (nat_lit 8) = x_1.net i (nat_lit 8)) ∧ x.net i (nat_lit 9) = x_1.net i (nat_lit 9)) ∧ True) ∧ (x_1.hE < (4611686018427387904 : Nat) ∧ x_1.hN < (4611686018427387904 : Nat) ∧ x_1.k < (4611686018427387904 : Nat)) ∧ ((chkE x_1 != (0 : Int)) = true → (True ∧ (0 : Int) = shV x (k, m).fst (k, m).snd) ∧ (True ∧ chkE x_1 = shE x (k, m).fst (k, m).snd) ∧ True) ∧ ((chkE x_1 != (0 : Int)) = false → inRange IntKind.i64 ((↑x.k : Int) - (1 : Int)) ∧ ∃ (x_2 : Int × Int × Int), ((True ∧ k = x_2.fst) ∧ (True ∧ (0 : Int) = x_2.snd.fst) ∧ (True ∧ (↑x.k : Int) - (1 : Int) = x_2.snd.snd) ∧ True) ∧ True ∧ ((!within x_2.fst x_2.snd.fst x_2.snd.snd) = true → (True ∧ (0 : Int) = shV x (k, m).fst (k, m).snd) ∧ (True ∧ (22 : Int) = shE x (k, m).fst (k, m).snd) ∧ True) ∧ ((!within x_2.fst x_2.snd.fst x_2.snd.snd) = false → ∃ (x_3 : Int × Int × Int), ((True ∧ m = x_3.fst) ∧ (True ∧ (0 : Int) = x_3.snd.fst) ∧ (True ∧ (5000 : Int) = x_3.snd.snd) ∧ True) ∧ True ∧ ((!within x_3.fst x_3.snd.fst x_3.snd.snd) = true → (True ∧ (0 : Int) = shV x (k, m).fst (k, m).snd) ∧ (True ∧ (22 : Int) = shE x (k, m).fst (k, m).snd) ∧ True) ∧ ((!within x_3.fst x_3.snd.fst x_3.snd.snd) = false → (∃ (g : Nat), (g ≤ m.toNat + (1 : Nat) ∧ ∀ (d : Nat), d < g → clrB x k.toNat d = false) ∧ True ∧ ((True ∧ (0 : Int) = (↑g : Int)) ∧ True) ∧ True) ∧ ∀ (g : Nat), (g ≤ m.toNat + (1 : Nat) ∧ ∀ (d : Nat), d < g → clrB x k.toNat d = false) → (decide ((↑g : Int) ≤ m) = true → ((0 : Nat) + x.k) * (80 : Nat) ≤ (140737488355328 : Nat) ∧ (0 : Nat) + x.k < (4611686018427387904 : Nat) ∧ (0 : Int) ≤ k ∧ k < (↑x.k : Int) ∧ inRange IntKind.i64 (x.net k.toNat (0 : Nat) + (↑g : Int)) ∧ (0 : Int) ≤ k ∧ k < (↑((0 : Nat) + x.k) : Int) ∧ ∃ (x_4 : Fleet × Nat), ((True ∧ (((True ∧ True ∧ True ∧ x.hE = x_4.fst.hE ∧ ∀ (i : Nat), i < x.hE → (True ∧ x.e i (nat_lit 0) = x_4.fst.e i (nat_lit 0)) ∧ x.e i (nat_lit 1) = x_4.fst.e i (nat_lit 1)) ∧ True ∧ True ∧ x.hN = x_4.fst.hN ∧ ∀ (i : Nat), i < x.hN → (True ∧ x.n i (nat_lit 0) = x_4.fst.n i (nat_lit 0)) ∧ x.n i (nat_lit 1) = x_4.fst.n i (nat_lit 1)) ∧ True ∧ x.gap = x_4.fst.gap) ∧ True ∧ True ∧ (0 : Nat) + x.k = x_4.fst.k ∧ ∀ (i : Nat), i < (0 : Nat) + x.k → (((((((((True ∧ (if i = k.toNat then x.net k.toNat (0 : Nat) + (↑g : Int) else x.net (i - (0 : Nat)) (nat_lit 0)) = x_4.fst.net i (nat_lit 0)) ∧ (if i = k.toNat then x.net k.toNat (nat_lit 1) else x.net (i - (0 : Nat)) (nat_lit 1)) = x_4.fst.net i (nat_lit 1)) ∧ (if i = k.toNat then x.net k.toNat (nat_lit 2) else x.net (i - (0 : Nat)) (nat_lit 2)) = x_4.fst.net i (nat_lit 2)) ∧ (if i = k.toNat then x.net k.toNat (nat_lit 3) else x.net (i - (0 : Nat)) (nat_lit 3)) = x_4.fst.net i (nat_lit 3)) ∧ (if i = k.toNat then x.net k.toNat (nat_lit 4) else x.net (i - (0 : Nat)) (nat_lit 4)) = x_4.fst.net i (nat_lit 4)) ∧ (if i = k.toNat then x.net k.toNat (nat_lit 5) else x.net (i - (0 : Nat)) (nat_lit 5)) = x_4.fst.net i (nat_lit 5)) ∧ (if i = k.toNat then x.net k.toNat (nat_lit 6) else x.net (i - (0 : Nat)) (nat_lit 6)) = x_4.fst.net i (nat_lit 6)) ∧ (if i = k.toNat then x.net k.toNat (nat_lit 7) else x.net (i - (0 : Nat)) (nat_lit 7)) = x_4.fst.net i (nat_lit 7)) ∧ (if i = k.toNat then x.net k.toNat (nat_lit 8) else x.net (i - (0 : Nat)) (nat_lit 8)) = x_4.fst.net i (nat_lit 8)) ∧ (if i = k.toNat then x.net k.toNat (nat_lit 9) else x.net (i - (0 : Nat)) (nat_lit 9)) = x_4.fst.net i (nat_lit 9)) ∧ (True ∧ k = (↑x_4.snd : Int)) ∧ True) ∧ (ChkW x_4.fst ∧ (x_4.fst.hE < (4611686018427387904 : Nat) ∧ x_4.fst.hN < (4611686018427387904 : Nat) ∧ x_4.fst.k < (4611686018427387904 : Nat)) ∧ x_4.snd < x_4.fst.k) ∧ (clR x_4.fst x_4.snd = true → (True ∧ (↑g : Int) = shV x (k, m).fst (k, m).snd) ∧ (True ∧ (0 : Int) = shE x (k, m).fst (k, m).snd) ∧ True) ∧ (clR x_4.fst x_4.snd = false → inRange IntKind.i64 ((↑g : Int) + (1 : Int)) ∧ ∃ (g' : Nat), (g' ≤ m.toNat + (1 : Nat) ∧ ∀ (d : Nat), d < g' → clrB x k.toNat d = false) ∧ m.toNat + (1 : Nat) - g' < m.toNat + (1 : Nat) - g ∧ True ∧ ((True ∧ (↑g : Int) + (1 : Int) = (↑g' : Int)) ∧ True) ∧ True)) ∧ (decide ((↑g : Int) ≤ m) = false → (True ∧ (0 : Int) = shV x (k, m).fst (k, m).snd) ∧ (True ∧ (4 : Int) = shE x (k, m).fst (k, m).snd) ∧ True))))) (by kernel_rfl) ?_
  simp only [true_and, and_true, inR, Prod.exists, Prod.forall, and_assoc, exists_and_left, exists_eq_left', exists_eq_left, forall_eq, exists_const, forall_const, loopN, loopM, fa2, fas, fas2, dup1, dup2, dup3, dup4, ite_true, exhs, exhn, exhz, exho, exs1, exn1, exz1, exo1, exs2, exn2, exz2, exo2, exs3, exn3, exz3, exo3, exs4, exn4, exz4, exo4, exs5, exn5, exz5, exo5, exs6, exn6, exz6, exo6, exs7, exn7, exz7, exo7, exs8, exn8, exz8, exo8, exs9, exn9, exz9, exo9, ex1, ex2, ex3, ex4, ex5, beqI, bneI, decide_true, Bool.true_and, decide_eq_true_eq, decide_eq_false_iff_not, ne_eq, Decidable.not_not]
  simp only [Nat.zero_add, Nat.sub_zero]
  obtain ⟨w1, w2, w3⟩ := (show x.wf from ha)
  refine exF ⟨w1, w2, w3, fun e => ?_, fun e => ?_⟩
  · obtain ⟨hc, e20⟩ := not_chk e
    obtain ⟨a1, a2⟩ := sh_20 (k := k) (most := m) hc
    exact ⟨a1.symm, by rw [a2, e20]⟩
  · have hc := chk_of e
    obtain ⟨s1, s2, s3, s4, s5, s6, s7⟩ := chk_size hc
    have f22 : shA x k m = false → 0 = shV x k m ∧ 22 = shE x k m := fun hf => by
      obtain ⟨a1, a2⟩ := sh_22 hc hf
      exact ⟨a1.symm, a2.symm⟩
    refine ⟨by omega, by omega, fun h1 => f22 ?_, fun h1 => ⟨fun h2 => f22 ?_, fun h2 => ?_⟩⟩
    · rw [Bool.not_eq_true'] at h1
      unfold shA; rw [h1]; rfl
    · rw [Bool.not_eq_true'] at h2
      unfold shA; rw [h2]; simp
    · rw [Bool.not_eq_false'] at h1 h2
      have g1 := Nm.within_iff.1 h1
      have g2 := Nm.within_iff.1 h2
      have hA : shA x k m = true := by unfold shA; rw [h1, h2]; rfl
      obtain ⟨K, hK⟩ : ∃ K, K = k.toNat := ⟨_, rfl⟩
      have hK' : k = (K : Int) := by omega
      have hKk : K < x.k := by omega
      rw [← hK]
      obtain ⟨⟨k1, k2⟩, _⟩ := chk_net hc hKk
      refine ⟨by omega, fun d hd => absurd hd (Nat.not_lt_zero d), fun g ⟨hg, hG⟩ => ⟨fun hlt => ?_, fun hge => ?_⟩⟩
      · have hW := shF_chk (k := K) (d := (g : Int)) hc (by omega) (by omega)
        have eq := clR_eq (K := K) (d := g) hc (by omega) hKk
        refine ⟨by omega, by omega, by omega, by omega, by omega, by omega, by omega, by omega, shF x K g, rfl, fun _ _ => ⟨rfl, rfl⟩, rfl, fun _ _ => ⟨rfl, rfl⟩, rfl, rfl, fun i hi => ?_, K, hK', hW, w1, w2, w3, hKk, fun hT => ?_, fun hF => ⟨by omega, by omega, by omega, fun d hd => ?_, by omega⟩⟩
        · by_cases c : i = K
          · subst c
            have q0 : (shF x i g).net i 0 = x.net i 0 + g := shF_at
            have q : ∀ j, 0 < j → (shF x i g).net i j = x.net i j := fun j hj => by
              show (if i = i ∧ j = 0 then x.net i 0 + (g : Int) else x.net i j) = _
              rw [if_neg (by omega)]
            rw [q0, q 1 (by omega), q 2 (by omega), q 3 (by omega), q 4 (by omega), q 5 (by omega), q 6 (by omega), q 7 (by omega), q 8 (by omega), q 9 (by omega)]
            simp only [if_true, and_self]
          · have q : ∀ j, (shF x K g).net i j = x.net i j := fun j => by
              show (if i = K ∧ j = 0 then x.net i 0 + (g : Int) else x.net i j) = _
              rw [if_neg (fun h => c h.1)]
            rw [q 0, q 1, q 2, q 3, q 4, q 5, q 6, q 7, q 8, q 9]
            simp only [c, if_false, and_self]
        · have hs : shO x k.toNat (m.toNat + 1) = some g := by
            rw [← hK]
            unfold shO
            exact srch_some (i := g) (by omega) (by rw [← eq, hT]; rfl) fun d hd => by rw [hG d hd]; rfl
          obtain ⟨a1, a2⟩ := sh_some hc hA hs
          exact ⟨a1.symm, a2.symm⟩
        · by_cases c : d = g
          · subst c; rw [← eq]; exact hF
          · exact hG d (by omega)
      · have hs : shO x k.toNat (m.toNat + 1) = none := by
          rw [← hK]
          unfold shO
          exact srch_none.2 fun d hd => by rw [hG d (by omega)]; rfl
        obtain ⟨a1, a2⟩ := sh_none hc hA hs
        exact ⟨a1.symm, a2.symm⟩
end Go.Proofs.YtcfmdhlohahhcaaDoor
