/- Texts for the law of the last part, part 15. -/
import Derived.Test.YtcfmdhlohahhcaaDoorBetweenP14
set_option linter.unusedSimpArgs false
set_option linter.unusedVariables false
set_option linter.unusedSimpArgs false
set_option linter.unusedVariables false
namespace Go.Proofs.YtcfmdhlohahhcaaDoor
open Go Go.Sx Nm
set_option maxRecDepth 100000
def TAB : List (Nat × Sig) := (60, sRl) :: (58, sIsT) :: (15, sLies) :: (19, sFouls) :: TAA
theorem TAB_ok : SigsOk Tryd.prog E0 TAB := (((TAA_ok.cons (runs 19 (by kernel_rfl)) q19).cons (runs 15 (by kernel_rfl)) q15).cons (runs 58 (by kernel_rfl)) q58).cons (runs 60 (by kernel_rfl)) q60
theorem q16 (a : sLies.α) (ha : sLies.pre a) : CallQ Tryd.prog E0 16 (sLies.arg a) (sLies.res a) := by
  obtain ⟨x, t, k, h⟩ := a
  refine bare_say E0_ok TAB TAB_ok [] EvensOk.nil runs { } (fuel := 8) ?_
  refine of_red (q := ∃ (x_1 : Fleet), ((True ∧ flq x x_1) ∧ True) ∧ (x_1.hE < (4611686018427387904 : Nat) ∧ x_1.hN < (4611686018427387904 : Nat) ∧ x_1.k < (4611686018427387904 : Nat)) ∧ ((chkE x_1 != (0 : Int)) = true → (True ∧ (True ∧ True ∧ (0 : Int) = liR x t k h (liP x t.e t.se (0 : Nat) k.toNat h)) ∧ True ∧ (0 : Int) = liR x t k h (liP x t.n t.sn (1 : Nat) k.toNat h)) ∧ (True ∧ chkE x_1 = liErr x t k h) ∧ True) ∧ ((chkE x_1 != (0 : Int)) = false → ∃ (x_2 : Fleet × Truth), ((True ∧ flq x x_2.fst) ∧ (True ∧ (((True ∧ True ∧ True ∧ t.nE = x_2.snd.nE ∧ ∀ (i : Nat), i < t.nE → True ∧ t.e i = x_2.snd.e i) ∧ True ∧ True ∧ t.nN = x_2.snd.nN ∧ ∀ (i : Nat), i < t.nN → True ∧ t.n i = x_2.snd.n i) ∧ True ∧ True ∧ t.nSE = x_2.snd.nSE ∧ ∀ (i : Nat), i < t.nSE → True ∧ t.se i = x_2.snd.se i) ∧ True ∧ True ∧ t.nSN = x_2.snd.nSN ∧ ∀ (i : Nat), i < t.nSN → True ∧ t.sn i = x_2.snd.sn i) ∧ True) ∧ (Nm.chk x_2.fst = true ∧ (x_2.fst.hE < (4611686018427387904 : Nat) ∧ x_2.fst.hN < (4611686018427387904 : Nat) ∧ x_2.fst.k < (4611686018427387904 : Nat)) ∧ x_2.snd.nE < (4611686018427387904 : Nat) ∧ x_2.snd.nN < (4611686018427387904 : Nat) ∧ x_2.snd.nSE < (4611686018427387904 : Nat) ∧ x_2.snd.nSN < (4611686018427387904 : Nat)) ∧ ((!trOk x_2.fst x_2.snd) = true → (True ∧ (True ∧ True ∧ (0 : Int) = liR x t k h (liP x t.e t.se (0 : Nat) k.toNat h)) ∧ True ∧ (0 : Int) = liR x t k h (liP x t.n t.sn (1 : Nat) k.toNat h)) ∧ (True ∧ (21 : Int) = liErr x t k h) ∧ True) ∧ ((!trOk x_2.fst x_2.snd) = false → ∃ (x_3 : Fleet × Int × Int), ((True ∧ flq x x_3.fst) ∧ (True ∧ k = x_3.snd.fst) ∧ (True ∧ h = x_3.snd.snd) ∧ True) ∧ (x_3.fst.hE < (4611686018427387904 : Nat) ∧ x_3.fst.hN < (4611686018427387904 : Nat) ∧ x_3.fst.k < (4611686018427387904 : Nat)) ∧ ((!lyB x_3.fst x_3.snd.fst x_3.snd.snd) = true → (True ∧ (True ∧ True ∧ (0 : Int) = liR x t k h (liP x t.e t.se (0 : Nat) k.toNat h)) ∧ True ∧ (0 : Int) = liR x t k h (liP x t.n t.sn (1 : Nat) k.toNat h)) ∧ (True ∧ (22 : Int) = liErr x t k h) ∧ True) ∧ ((!lyB x_3.fst x_3.snd.fst x_3.snd.snd) = false → ∃ (x_4 : RlAsk), ((True ∧ flq x x_4.x) ∧ (True ∧ (((True ∧ True ∧ True ∧ t.nE = x_4.t.nE ∧ ∀ (i : Nat), i < t.nE → True ∧ t.e i = x_4.t.e i) ∧ True ∧ True ∧ t.nN = x_4.t.nN ∧ ∀ (i : Nat), i < t.nN → True ∧ t.n i = x_4.t.n i) ∧ True ∧ True ∧ t.nSE = x_4.t.nSE ∧ ∀ (i : Nat), i < t.nSE → True ∧ t.se i = x_4.t.se i) ∧ True ∧ True ∧ t.nSN = x_4.t.nSN ∧ ∀ (i : Nat), i < t.nSN → True ∧ t.sn i = x_4.t.sn i) ∧ (True ∧ k = (↑x_4.k : Int)) ∧ (True ∧ h = x_4.h) ∧ True) ∧ (Nm.chk x_4.x = true ∧ trOk x_4.x x_4.t = true ∧ ((x_4.x.hE < (4611686018427387904 : Nat) ∧ x_4.x.hN < (4611686018427387904 : Nat) ∧ x_4.x.k < (4611686018427387904 : Nat)) ∧ x_4.t.nE < (4611686018427387904 : Nat) ∧ x_4.t.nN < (4611686018427387904 : Nat) ∧ x_4.t.nSE < (4611686018427387904 : Nat) ∧ x_4.t.nSN < (4611686018427387904 : Nat)) ∧ x_4.k < x_4.x.k ∧ x_4.x.net x_4.k (4 : Nat) ≤ x_4.h ∧ x_4.h ≤ (↑x_4.x.hE : Int)) ∧ (True ∧ (True ∧ True ∧ liP x_4.x x_4.t.e x_4.t.se (0 : Nat) x_4.k x_4.h = liR x t k h (liP x t.e t.se (0 : Nat) k.toNat h)) ∧ True ∧ liP x_4.x x_4.t.n x_4.t.sn (1 : Nat) x_4.k x_4.h = liR x t k h (liP x t.n t.sn (1 : Nat) k.toNat h)) ∧ (True ∧ (0 : Int) = liErr x t k h) ∧ True)))) (by kernel_rfl) ?_
  simp only [flq, true_and, and_true, inR, Prod.exists, Prod.forall, and_assoc, exists_and_left, exists_eq_left', exists_eq_left, forall_eq, exists_const, forall_const, loopN, loopM, fa2, fas, fas2, dup1, dup2, dup3, dup4, ite_true, exhs, exhn, exhz, exho, exs1, exn1, exz1, exo1, exs2, exn2, exz2, exo2, exs3, exn3, exz3, exo3, exs4, exn4, exz4, exo4, exs5, exn5, exz5, exo5, exs6, exn6, exz6, exo6, exs7, exn7, exz7, exo7, exs8, exn8, exz8, exo8, exs9, exn9, exz9, exo9, ex1, ex2, ex3, ex4, ex5, beqI, bneI, decide_true, Bool.true_and, decide_eq_true_eq, decide_eq_false_iff_not, ne_eq, Decidable.not_not]
  obtain ⟨⟨w1, w2, w3⟩, v1, v2, v3, v4⟩ := (show x.wf ∧ t.wf from ha)
  have no : ∀ v : Int, v ≠ 0 → liErr x t k h = v → ∀ z, 0 = liR x t k h z := fun v hv e z => by unfold liR; rw [if_neg (by rw [e]; exact hv)]
  refine exF ⟨w1, w2, w3, fun e => ?_, fun e => exF (exT ⟨chk_of e, w1, w2, w3, v1, v2, v3, v4, fun h1 => ?_, fun h1 => exF ⟨w1, w2, w3, fun h2 => ?_, fun h2 => ?_⟩⟩)⟩
  · obtain ⟨hc, e20⟩ := not_chk e
    have ev : liErr x t k h = 20 := if_neg hc
    have z := no 20 (by decide) ev
    exact ⟨z _, z _, by rw [ev, e20]⟩
  · have hc := chk_of e
    rw [Bool.not_eq_true'] at h1
    have ev : liErr x t k h = 21 := by unfold liErr; rw [if_pos hc, h1]; rfl
    have z := no 21 (by decide) ev
    exact ⟨z _, z _, ev.symm⟩
  · have hc := chk_of e
    rw [Bool.not_eq_false'] at h1
    rw [Bool.not_eq_true'] at h2
    have ev : liErr x t k h = 22 := by unfold liErr; rw [if_pos hc, if_pos h1, h2]; rfl
    have z := no 22 (by decide) ev
    exact ⟨z _, z _, ev.symm⟩
  · have hc := chk_of e
    rw [Bool.not_eq_false'] at h1 h2
    have ev : liErr x t k h = 0 := by unfold liErr; rw [if_pos hc, if_pos h1, if_pos h2]
    have z : ∀ q, liR x t k h q = q := fun q => by unfold liR; rw [if_pos ev]
    have q := h2
    simp only [lyB, Bool.and_eq_true, Nm.within_iff] at q
    obtain ⟨_, _, _, _, ⟨k3, k4⟩, ⟨k5, k6⟩, _⟩ := chk_net hc (i := k.toNat) (by omega)
    simp only [z, ev]
    exact ⟨⟨x, t, k.toNat, h⟩, rfl, fun _ _ => ⟨rfl, rfl⟩, rfl, fun _ _ => ⟨rfl, rfl⟩, rfl, rfl, fun _ _ => ⟨rfl, rfl, rfl, rfl, rfl, rfl, rfl, rfl, rfl, rfl⟩, rfl, fun _ _ => rfl, rfl, fun _ _ => rfl, rfl, fun _ _ => rfl, rfl, fun _ _ => rfl, by show k = ((k.toNat : Nat) : Int); omega, rfl, hc, h1, w1, w2, w3, v1, v2, v3, v4, by show k.toNat < x.k; omega, by show x.net k.toNat 4 ≤ h; omega, by show h ≤ x.hE; omega, rfl, rfl, trivial⟩
theorem q20 (a : sFouls.α) (ha : sFouls.pre a) : CallQ Tryd.prog E0 20 (sFouls.arg a) (sFouls.res a) := by
  obtain ⟨x, t⟩ := a
  refine bare_say E0_ok TAB TAB_ok [] EvensOk.nil runs { l := [(20, 7, aT1 7 (x.hE + 1) x.k (canH (trF x t))), (20, 10, aT2 7 8 x.k (canH (trF x t))), (20, 13, aT3 7 8 9 x.k (canH (trF x t)))] } (fuel := 8) ?_
  refine of_red (q := ∃ (x_1 : Fleet), ((True ∧ flq x x_1) ∧ True) ∧ (x_1.hE < (4611686018427387904 : Nat) ∧ x_1.hN < (4611686018427387904 : Nat) ∧ x_1.k < (4611686018427387904 : Nat)) ∧ ((chkE x_1 != (0 : Int)) = true → (True ∧ ((True ∧ True ∧ (0 : Int) = oH (fouO x t)) ∧ True ∧ (0 : Int) = oI (fouO x t)) ∧ True ∧ (0 : Int) = oK (fouO x t)) ∧ (True ∧ chkE x_1 = fouE x t) ∧ True) ∧ ((chkE x_1 != (0 : Int)) = false → ∃ (x_2 : Fleet × Truth), ((True ∧ flq x x_2.fst) ∧ (True ∧ (((True ∧ True ∧ True ∧ t.nE = x_2.snd.nE ∧ ∀ (i : Nat), i < t.nE → True ∧ t.e i = x_2.snd.e i) ∧ True ∧ True ∧ t.nN = x_2.snd.nN ∧ ∀ (i : Nat), i < t.nN → True ∧ t.n i = x_2.snd.n i) ∧ True ∧ True ∧ t.nSE = x_2.snd.nSE ∧ ∀ (i : Nat), i < t.nSE → True ∧ t.se i = x_2.snd.se i) ∧ True ∧ True ∧ t.nSN = x_2.snd.nSN ∧ ∀ (i : Nat), i < t.nSN → True ∧ t.sn i = x_2.snd.sn i) ∧ True) ∧ (Nm.chk x_2.fst = true ∧ (x_2.fst.hE < (4611686018427387904 : Nat) ∧ x_2.fst.hN < (4611686018427387904 : Nat) ∧ x_2.fst.k < (4611686018427387904 : Nat)) ∧ x_2.snd.nE < (4611686018427387904 : Nat) ∧ x_2.snd.nN < (4611686018427387904 : Nat) ∧ x_2.snd.nSE < (4611686018427387904 : Nat) ∧ x_2.snd.nSN < (4611686018427387904 : Nat)) ∧ ((!trOk x_2.fst x_2.snd) = true → (True ∧ ((True ∧ True ∧ (0 : Int) = oH (fouO x t)) ∧ True ∧ (0 : Int) = oI (fouO x t)) ∧ True ∧ (0 : Int) = oK (fouO x t)) ∧ (True ∧ (21 : Int) = fouE x t) ∧ True) ∧ ((!trOk x_2.fst x_2.snd) = false → (∃ (g : Nat), (g ≤ x.hE + (1 : Nat) ∧ ∀ (h : Nat), h < g → ∀ (i : Nat), i < x.k → ∀ (k : Nat), i < k → k < x.k → canH (trF x t) h i k = false) ∧ True ∧ ((True ∧ (0 : Int) = (↑g : Int)) ∧ True) ∧ True) ∧ ∀ (g : Nat), (g ≤ x.hE + (1 : Nat) ∧ ∀ (h : Nat), h < g → ∀ (i : Nat), i < x.k → ∀ (k : Nat), i < k → k < x.k → canH (trF x t) h i k = false) → (decide ((↑g : Int) ≤ (↑x.hE : Int)) = true → (∃ (g_1 : Nat × Nat), ((↑g : Int) = (↑g_1.snd : Int) ∧ g_1.fst ≤ x.k ∧ ∀ (i : Nat), i < g_1.fst → ∀ (k : Nat), i < k → k < x.k → canH (trF x t) g_1.snd i k = false) ∧ True ∧ ((True ∧ (0 : Int) = (↑g_1.fst : Int)) ∧ True) ∧ True) ∧ ∀ (g_1 : Nat × Nat), ((↑g : Int) = (↑g_1.snd : Int) ∧ g_1.fst ≤ x.k ∧ ∀ (i : Nat), i < g_1.fst → ∀ (k : Nat), i < k → k < x.k → canH (trF x t) g_1.snd i k = false) → (decide ((↑g_1.fst : Int) < (↑x.k : Int)) = true → inRange IntKind.i64 ((↑g_1.fst : Int) + (1 : Int)) ∧ (∃ (g_2 : Nat × Nat × Nat), ((↑g : Int) = (↑g_2.snd.snd : Int) ∧ (↑g_1.fst : Int) = (↑g_2.snd.fst : Int) ∧ g_2.snd.fst < g_2.fst ∧ g_2.fst ≤ x.k ∧ ∀ (k : Nat), g_2.snd.fst < k → k < g_2.fst → canH (trF x t) g_2.snd.snd g_2.snd.fst k = false) ∧ True ∧ ((True ∧ (↑g_1.fst : Int) + (1 : Int) = (↑g_2.fst : Int)) ∧ True) ∧ True) ∧ ∀ (g_2 : Nat × Nat × Nat), ((↑g : Int) = (↑g_2.snd.snd : Int) ∧ (↑g_1.fst : Int) = (↑g_2.snd.fst : Int) ∧ g_2.snd.fst < g_2.fst ∧ g_2.fst ≤ x.k ∧ ∀ (k : Nat), g_2.snd.fst < k → k < g_2.fst → canH (trF x t) g_2.snd.snd g_2.snd.fst k = false) → (decide ((↑g_2.fst : Int) < (↑x.k : Int)) = true → ∃ (x_3 : Fleet × Int × Int), ((True ∧ flq x x_3.fst) ∧ (True ∧ (↑g_1.fst : Int) = x_3.snd.fst) ∧ (True ∧ (↑g : Int) = x_3.snd.snd) ∧ True) ∧ (x_3.fst.hE < (4611686018427387904 : Nat) ∧ x_3.fst.hN < (4611686018427387904 : Nat) ∧ x_3.fst.k < (4611686018427387904 : Nat)) ∧ ((!lyB x_3.fst x_3.snd.fst x_3.snd.snd) = true → inRange IntKind.i64 ((↑g_2.fst : Int) + (1 : Int)) ∧ ∃ (g' : Nat × Nat × Nat), ((↑g : Int) = (↑g'.snd.snd : Int) ∧ (↑g_1.fst : Int) = (↑g'.snd.fst : Int) ∧ g'.snd.fst < g'.fst ∧ g'.fst ≤ x.k ∧ ∀ (k : Nat), g'.snd.fst < k → k < g'.fst → canH (trF x t) g'.snd.snd g'.snd.fst k = false) ∧ x.k - g'.fst < x.k - g_2.fst ∧ True ∧ ((True ∧ (↑g_2.fst : Int) + (1 : Int) = (↑g'.fst : Int)) ∧ True) ∧ True) ∧ ((!lyB x_3.fst x_3.snd.fst x_3.snd.snd) = false → ∃ (x_4 : Fleet × Int × Int), ((True ∧ flq x x_4.fst) ∧ (True ∧ (↑g_2.fst : Int) = x_4.snd.fst) ∧ (True ∧ (↑g : Int) = x_4.snd.snd) ∧ True) ∧ (x_4.fst.hE < (4611686018427387904 : Nat) ∧ x_4.fst.hN < (4611686018427387904 : Nat) ∧ x_4.fst.k < (4611686018427387904 : Nat)) ∧ ((!lyB x_4.fst x_4.snd.fst x_4.snd.snd) = true → inRange IntKind.i64 ((↑g_2.fst : Int) + (1 : Int)) ∧ ∃ (g' : Nat × Nat × Nat), ((↑g : Int) = (↑g'.snd.snd : Int) ∧ (↑g_1.fst : Int) = (↑g'.snd.fst : Int) ∧ g'.snd.fst < g'.fst ∧ g'.fst ≤ x.k ∧ ∀ (k : Nat), g'.snd.fst < k → k < g'.fst → canH (trF x t) g'.snd.snd g'.snd.fst k = false) ∧ x.k - g'.fst < x.k - g_2.fst ∧ True ∧ ((True ∧ (↑g_2.fst : Int) + (1 : Int) = (↑g'.fst : Int)) ∧ True) ∧ True) ∧ ((!lyB x_4.fst x_4.snd.fst x_4.snd.snd) = false → ∃ (x_5 : RlAsk), ((True ∧ flq x x_5.x) ∧ (True ∧ (((True ∧ True ∧ True ∧ t.nE = x_5.t.nE ∧ ∀ (i : Nat), i < t.nE → True ∧ t.e i = x_5.t.e i) ∧ True ∧ True ∧ t.nN = x_5.t.nN ∧ ∀ (i : Nat), i < t.nN → True ∧ t.n i = x_5.t.n i) ∧ True ∧ True ∧ t.nSE = x_5.t.nSE ∧ ∀ (i : Nat), i < t.nSE → True ∧ t.se i = x_5.t.se i) ∧ True ∧ True ∧ t.nSN = x_5.t.nSN ∧ ∀ (i : Nat), i < t.nSN → True ∧ t.sn i = x_5.t.sn i) ∧ (True ∧ (↑g_1.fst : Int) = (↑x_5.k : Int)) ∧ (True ∧ (↑g : Int) = x_5.h) ∧ True) ∧ (Nm.chk x_5.x = true ∧ trOk x_5.x x_5.t = true ∧ ((x_5.x.hE < (4611686018427387904 : Nat) ∧ x_5.x.hN < (4611686018427387904 : Nat) ∧ x_5.x.k < (4611686018427387904 : Nat)) ∧ x_5.t.nE < (4611686018427387904 : Nat) ∧ x_5.t.nN < (4611686018427387904 : Nat) ∧ x_5.t.nSE < (4611686018427387904 : Nat) ∧ x_5.t.nSN < (4611686018427387904 : Nat)) ∧ x_5.k < x_5.x.k ∧ x_5.x.net x_5.k (4 : Nat) ≤ x_5.h ∧ x_5.h ≤ (↑x_5.x.hE : Int)) ∧ ∃ (x_6 : RlAsk), ((True ∧ flq x x_6.x) ∧ (True ∧ (((True ∧ True ∧ True ∧ t.nE = x_6.t.nE ∧ ∀ (i : Nat), i < t.nE → True ∧ t.e i = x_6.t.e i) ∧ True ∧ True ∧ t.nN = x_6.t.nN ∧ ∀ (i : Nat), i < t.nN → True ∧ t.n i = x_6.t.n i) ∧ True ∧ True ∧ t.nSE = x_6.t.nSE ∧ ∀ (i : Nat), i < t.nSE → True ∧ t.se i = x_6.t.se i) ∧ True ∧ True ∧ t.nSN = x_6.t.nSN ∧ ∀ (i : Nat), i < t.nSN → True ∧ t.sn i = x_6.t.sn i) ∧ (True ∧ (↑g_2.fst : Int) = (↑x_6.k : Int)) ∧ (True ∧ (↑g : Int) = x_6.h) ∧ True) ∧ (Nm.chk x_6.x = true ∧ trOk x_6.x x_6.t = true ∧ ((x_6.x.hE < (4611686018427387904 : Nat) ∧ x_6.x.hN < (4611686018427387904 : Nat) ∧ x_6.x.k < (4611686018427387904 : Nat)) ∧ x_6.t.nE < (4611686018427387904 : Nat) ∧ x_6.t.nN < (4611686018427387904 : Nat) ∧ x_6.t.nSE < (4611686018427387904 : Nat) ∧ x_6.t.nSN < (4611686018427387904 : Nat)) ∧ x_6.k < x_6.x.k ∧ x_6.x.net x_6.k (4 : Nat) ≤ x_6.h ∧ x_6.h ≤ (↑x_6.x.hE : Int)) ∧ inRange IntKind.i64 (liP x_5.x x_5.t.e x_5.t.se (0 : Nat) x_5.k x_5.h - liP x_6.x x_6.t.e x_6.t.se (0 : Nat) x_6.k x_6.h) ∧ inRange IntKind.i64 (liP x_5.x x_5.t.n x_5.t.sn (1 : Nat) x_5.k x_5.h - liP x_6.x x_6.t.n x_6.t.sn (1 : Nat) x_6.k x_6.h) ∧ ∃ (x_7 : FAsk), ((True ∧ flq x x_7.x) ∧ (True ∧ (↑g_1.fst : Int) = (↑x_7.i : Int)) ∧ (True ∧ (↑g_2.fst : Int) = (↑x_7.k : Int)) ∧ (True ∧ (True ∧ True ∧ liP x_5.x x_5.t.e x_5.t.se (0 : Nat) x_5.k x_5.h - liP x_6.x x_6.t.e x_6.t.se (0 : Nat) x_6.k x_6.h = x_7.l) ∧ True ∧ liP x_5.x x_5.t.e x_5.t.se (0 : Nat) x_5.k x_5.h - liP x_6.x x_6.t.e x_6.t.se (0 : Nat) x_6.k x_6.h = x_7.u) ∧ (True ∧ (True ∧ True ∧ liP x_5.x x_5.t.n x_5.t.sn (1 : Nat) x_5.k x_5.h - liP x_6.x x_6.t.n x_6.t.sn (1 : Nat) x_6.k x_6.h = x_7.l2) ∧ True ∧ liP x_5.x x_5.t.n x_5.t.sn (1 : Nat) x_5.k x_5.h - liP x_6.x x_6.t.n x_6.t.sn (1 : Nat) x_6.k x_6.h = x_7.u2) ∧ True) ∧ (ChkW x_7.x ∧ (x_7.x.hE < (4611686018427387904 : Nat) ∧ x_7.x.hN < (4611686018427387904 : Nat) ∧ x_7.x.k < (4611686018427387904 : Nat)) ∧ x_7.i < x_7.x.k ∧ x_7.k < x_7.x.k) ∧ (foulB x_7 = true → (True ∧ ((True ∧ True ∧ (↑g : Int) = oH (fouO x t)) ∧ True ∧ (↑g_1.fst : Int) = oI (fouO x t)) ∧ True ∧ (↑g_2.fst : Int) = oK (fouO x t)) ∧ (True ∧ (0 : Int) = fouE x t) ∧ True) ∧ (foulB x_7 = false → inRange IntKind.i64 ((↑g_2.fst : Int) + (1 : Int)) ∧ ∃ (g' : Nat × Nat × Nat), ((↑g : Int) = (↑g'.snd.snd : Int) ∧ (↑g_1.fst : Int) = (↑g'.snd.fst : Int) ∧ g'.snd.fst < g'.fst ∧ g'.fst ≤ x.k ∧ ∀ (k : Nat), g'.snd.fst < k → k < g'.fst → canH (trF x t) g'.snd.snd g'.snd.fst k = false) ∧ x.k - g'.fst < x.k - g_2.fst ∧ True ∧ ((True ∧ (↑g_2.fst : Int) + (1 : Int) = (↑g'.fst : Int)) ∧ True) ∧ True)))) ∧ (decide ((↑g_2.fst : Int) < (↑x.k : Int)) = false → inRange IntKind.i64 ((↑g_1.fst : Int) + (1 : Int)) ∧ ∃ (g' : Nat × Nat), ((↑g : Int) = (↑g'.snd : Int) ∧ g'.fst ≤ x.k ∧ ∀ (i : Nat), i < g'.fst → ∀ (k : Nat), i < k → k < x.k → canH (trF x t) g'.snd i k = false) ∧ x.k - g'.fst < x.k - g_1.fst ∧ True ∧ ((True ∧ (↑g_1.fst : Int) + (1 : Int) = (↑g'.fst : Int)) ∧ True) ∧ True)) ∧ (decide ((↑g_1.fst : Int) < (↑x.k : Int)) = false → inRange IntKind.i64 ((↑g : Int) + (1 : Int)) ∧ ∃ (g' : Nat), (g' ≤ x.hE + (1 : Nat) ∧ ∀ (h : Nat), h < g' → ∀ (i : Nat), i < x.k → ∀ (k : Nat), i < k → k < x.k → canH (trF x t) h i k = false) ∧ x.hE + (1 : Nat) - g' < x.hE + (1 : Nat) - g ∧ True ∧ ((True ∧ (↑g : Int) + (1 : Int) = (↑g' : Int)) ∧ True) ∧ True)) ∧ (decide ((↑g : Int) ≤ (↑x.hE : Int)) = false → (True ∧ ((True ∧ True ∧ (0 : Int) = oH (fouO x t)) ∧ True ∧ (0 : Int) = oI (fouO x t)) ∧ True ∧ (0 : Int) = oK (fouO x t)) ∧ (True ∧ (4 : Int) = fouE x t) ∧ True)))) (by kernel_rfl) ?_
  simp only [flq, true_and, and_true, inR, Prod.exists, Prod.forall, and_assoc, exists_and_left, exists_eq_left', exists_eq_left, forall_eq, exists_const, forall_const, loopN, loopM, fa2, fas, fas2, dup1, dup2, dup3, dup4, ite_true, exhs, exhn, exhz, exho, exs1, exn1, exz1, exo1, exs2, exn2, exz2, exo2, exs3, exn3, exz3, exo3, exs4, exn4, exz4, exo4, exs5, exn5, exz5, exo5, exs6, exn6, exz6, exo6, exs7, exn7, exz7, exo7, exs8, exn8, exz8, exo8, exs9, exn9, exz9, exo9, ex1, ex2, ex3, ex4, ex5, beqI, bneI, decide_true, Bool.true_and, decide_eq_true_eq, decide_eq_false_iff_not, ne_eq, Decidable.not_not]
  obtain ⟨⟨w1, w2, w3⟩, v1, v2, v3, v4⟩ := (show x.wf ∧ t.wf from ha)
  refine exF ⟨w1, w2, w3, fun e => ?_, fun e => exF (exT ⟨chk_of e, w1, w2, w3, v1, v2, v3, v4, fun ht => ?_, fun ht => ?_⟩)⟩
  · obtain ⟨hc, e20⟩ := not_chk e
    have eO : fouO x t = none := if_neg fun h => hc h.1
    have eT : trE x t = 20 := if_neg hc
    have eE : fouE x t = 20 := by unfold fouE; rw [eT]; rfl
    rw [eO, eE, e20]
    exact ⟨rfl, rfl, rfl, rfl⟩
  · have hc := chk_of e
    rw [Bool.not_eq_true'] at ht
    have eO : fouO x t = none := if_neg fun h => by rw [ht] at h; cases h.2
    have eT : trE x t = 21 := by unfold trE; rw [if_pos hc, ht]; rfl
    have eE : fouE x t = 21 := by unfold fouE; rw [eT]; rfl
    rw [eO, eE]
    exact ⟨rfl, rfl, rfl, rfl⟩
  · have hc := chk_of e
    rw [Bool.not_eq_false'] at ht
    obtain ⟨s1, s2, s3, s4, s5, s6, s7⟩ := chk_size hc
    have eO : fouO x t = firstP (x.hE + 1) x.k (canH (trF x t)) := if_pos ⟨hc, ht⟩
    have eT : trE x t = 0 := by unfold trE; rw [if_pos hc, if_pos ht]
    have eE : fouE x t = oE (fouO x t) := if_pos eT
    refine ⟨by omega, fun _ h => by omega, fun g ⟨hg, hG⟩ => ⟨fun hlt => ⟨by omega, fun _ h => by omega, fun a b ⟨hb, ha, hA⟩ => ?_⟩, fun hge => ?_⟩⟩
    · obtain rfl : g = b := by omega
      refine ⟨fun halt => ⟨by omega, by omega, by omega, by omega, fun k h1 h2 => by omega, fun k a' b' ⟨hb', ha', hk1, hk2, hK⟩ => ?_⟩, fun hage => ⟨by omega, by omega, by omega, fun h hh i hi k hik hk => ?_, by omega⟩⟩
      · obtain rfl : g = b' := by omega
        obtain rfl : a = a' := by omega
        refine ⟨fun hk => ?_, fun hk => ⟨by omega, by omega, by omega, fun i hi k' h1 h2 => ?_, by omega⟩⟩
        · have hk' : k < x.k := by omega
          have ha' : a < x.k := by omega
          have next : canH (trF x t) g a k = false → -9223372036854775808 ≤ (k : Int) + 1 ∧ (k : Int) + 1 ≤ 9223372036854775807 ∧ a < k + 1 ∧ k + 1 ≤ x.k ∧ (∀ k', a < k' → k' < k + 1 → canH (trF x t) g a k' = false) ∧ x.k - (k + 1) < x.k - k := fun hf => ⟨by omega, by omega, by omega, by omega, fun k' h1 h2 => by
            by_cases c : k' = k
            · rw [c]; exact hf
            · exact hK k' h1 (by omega), by omega⟩
          have eH : canH (trF x t) g a k = (lyB x a g && lyB x k g && canP ⟨trF x t, a, k, g⟩) := by
            unfold canH; rw [trF_ly, trF_ly]
          refine exF ⟨w1, w2, w3, fun l1 => next ?_, fun l1 => exF ⟨w1, w2, w3, fun l2 => next ?_, fun l2 => ?_⟩⟩
          · rw [Bool.not_eq_true'] at l1
            rw [eH, l1]; rfl
          · rw [Bool.not_eq_true'] at l2
            rw [eH, l2]; simp
          · rw [Bool.not_eq_false'] at l1 l2
            have q1 := l1
            have q2 := l2
            simp only [lyB, Bool.and_eq_true, Int.toNat_natCast] at q1 q2
            have g1 := Nm.within_iff.1 q1.2
            have g2 := Nm.within_iff.1 q2.2
            have fs := foul_same (t := t) hc ha' hk' l1 l2
            have bd : ∀ (v s : Nat → Int) (b j : Nat), j < x.k → x.net j 4 ≤ g → (-10000 ≤ x.net j b ∧ x.net j b ≤ 10000) → (-50 ≤ s j ∧ s j ≤ 50) → (∀ i, i < x.hE → -200 ≤ v i ∧ v i ≤ 200) → -20000 ≤ liP x v s b j g ∧ liP x v s b j g ≤ 20000 := fun v s b j hj h4 p1 p2 p3 => by
              obtain ⟨_, _, _, _, ⟨k3, k4⟩, _⟩ := chk_net hc hj
              have e : liP x v s b j g = liQ x v s b j ((g : Int) - x.net j 4).toNat := by unfold liQ; congr 1; omega
              rw [e]
              exact liQ_bd p1 p2 (by omega) fun i hi => p3 _ (by omega)
            obtain ⟨⟨n0, t0⟩, ⟨n2, t2⟩, ⟨n1, t1⟩, n3, t3⟩ := trOk_get hc ht
            obtain ⟨ia, ib, _⟩ := chk_net hc ha'
            obtain ⟨ka, kb, _⟩ := chk_net hc hk'
            have b1 := bd t.e t.se 0 a ha' g1.1 ia (t2 a ha') t0
            have b2 := bd t.e t.se 0 k hk' g2.1 ka (t2 k hk') t0
            have b3 := bd t.n t.sn 1 a ha' g1.1 ib (t3 a ha') t1
            have b4 := bd t.n t.sn 1 k hk' g2.1 kb (t3 k hk') t1
            have d1 : -9223372036854775808 ≤ liP x t.e t.se 0 a g - liP x t.e t.se 0 k g := by omega
            have d2 : liP x t.e t.se 0 a g - liP x t.e t.se 0 k g ≤ 9223372036854775807 := by omega
            have d3 : -9223372036854775808 ≤ liP x t.n t.sn 1 a g - liP x t.n t.sn 1 k g := by omega
            have d4 : liP x t.n t.sn 1 a g - liP x t.n t.sn 1 k g ≤ 9223372036854775807 := by omega
            refine ⟨⟨x, t, a, g⟩, rfl, fun _ _ => ⟨rfl, rfl⟩, rfl, fun _ _ => ⟨rfl, rfl⟩, rfl, rfl, fun _ _ => ⟨rfl, rfl, rfl, rfl, rfl, rfl, rfl, rfl, rfl, rfl⟩, rfl, fun _ _ => rfl, rfl, fun _ _ => rfl, rfl, fun _ _ => rfl, rfl, fun _ _ => rfl, rfl, rfl, hc, ht, w1, w2, w3, v1, v2, v3, v4, ha', g1.1, by show (g : Int) ≤ x.hE; omega, ⟨x, t, k, g⟩, rfl, fun _ _ => ⟨rfl, rfl⟩, rfl, fun _ _ => ⟨rfl, rfl⟩, rfl, rfl, fun _ _ => ⟨rfl, rfl, rfl, rfl, rfl, rfl, rfl, rfl, rfl, rfl⟩, rfl, fun _ _ => rfl, rfl, fun _ _ => rfl, rfl, fun _ _ => rfl, rfl, fun _ _ => rfl, rfl, rfl, hc, ht, w1, w2, w3, v1, v2, v3, v4, hk', g2.1, by show (g : Int) ≤ x.hE; omega, d1, d2, d3, d4,
              ⟨x, a, k, liP x t.e t.se 0 a g - liP x t.e t.se 0 k g, liP x t.e t.se 0 a g - liP x t.e t.se 0 k g, liP x t.n t.sn 1 a g - liP x t.n t.sn 1 k g, liP x t.n t.sn 1 a g - liP x t.n t.sn 1 k g⟩, rfl, fun _ _ => ⟨rfl, rfl⟩, rfl, fun _ _ => ⟨rfl, rfl⟩, rfl, rfl, fun _ _ => ⟨rfl, rfl, rfl, rfl, rfl, rfl, rfl, rfl, rfl, rfl⟩, rfl, rfl, rfl, rfl, rfl, rfl, chkW_of hc, w1, w2, w3, ha', hk', fun hp => ?_, fun hp => next ?_⟩
            · have hf : fouO x t = some (g, a, k) := by
                rw [eO]
                exact firstP_some (by omega) (by omega) (by omega) (by omega) (by rw [eH, l1, l2, fs, hp]; rfl) hG hA hK
              rw [eE, hf]
              exact ⟨rfl, rfl, rfl, rfl⟩
            · rw [eH, fs, hp]; simp
        · by_cases c : i = a
          · subst c; exact hK k' h1 (by omega)
          · exact hA i (by omega) k' h1 h2
      · by_cases c : h = g
        · subst c; exact hA i (by omega) k hik hk
        · exact hG h (by omega) i hi k hik hk
    · have hn : fouO x t = none := by
        rw [eO]
        exact firstP_none.2 fun h hh i hi k hk hik => hG h (by omega) i hi k hik hk
      rw [eE, hn]
      exact ⟨rfl, rfl, rfl, rfl⟩
end Go.Proofs.YtcfmdhlohahhcaaDoor
set_option linter.unusedSimpArgs false
set_option linter.unusedVariables false
namespace Go.Sx
def isRow (st : St) (t i : Nat) (m : Int) : Prop := match st.tm t with
  | .t (.c (.ptr n _)) => (match st.hp n with
    | some (.box _ get) => (match get 3 with
      | .os r _ _ => (match st.hp r with | some (.row _ _ _ g) => isI (.t (.c (g i 0))) m | _ => False)
      | _ => False)
    | _ => False)
  | _ => False
end Go.Sx
namespace Go.Proofs.YtcfmdhlohahhcaaDoor
open Go Go.Sx Nm
set_option maxRecDepth 100000
def shF (x : Fleet) (k : Nat) (d : Int) : Fleet := ⟨x.hE, x.e, x.hN, x.n, x.gap, x.k, fun i j => if i = k ∧ j = 0 then x.net i 0 + d else x.net i j⟩
theorem shF_chk {x : Fleet} {k : Nat} {d : Int} (hc : Nm.chk x = true) (h0 : 0 ≤ d) (h1 : d ≤ 5000) : ChkW (shF x k d) := by
  have z : 1 ≤ x.hE ∧ x.hE ≤ 24 ∧ x.hN = x.hE ∧ 0 ≤ x.gap ∧ x.gap ≤ 500 ∧ 1 ≤ x.k ∧ x.k ≤ 6 := chk_size hc
  have u : ∀ j, j < x.hE → (-200 ≤ x.e j 0 ∧ x.e j 0 ≤ x.e j 1 ∧ x.e j 1 ≤ 200) ∧ -200 ≤ x.n j 0 ∧ x.n j 0 ≤ x.n j 1 ∧ x.n j 1 ≤ 200 := fun j hj => chk_hour hc hj
  refine ⟨z, u, fun i hi => ?_⟩
  have hi : i < x.k := hi
  have q := chk_net hc hi
  have e : ∀ j, 0 < j → (shF x k d).net i j = x.net i j := fun j hj => by
    show (if i = k ∧ j = 0 then x.net i 0 + d else x.net i j) = _
    rw [if_neg (by omega)]
  have e0 : (shF x k d).net i 0 = x.net i 0 ∨ (shF x k d).net i 0 = x.net i 0 + d := by
    show (if i = k ∧ 0 = 0 then x.net i 0 + d else x.net i 0) = _ ∨ (if i = k ∧ 0 = 0 then x.net i 0 + d else x.net i 0) = _
    split
    · exact .inr rfl
    · exact .inl rfl
  rw [e 1 (by omega), e 2 (by omega), e 3 (by omega), e 4 (by omega), e 5 (by omega), e 6 (by omega), e 7 (by omega), e 8 (by omega), e 9 (by omega)]
  have e1 : (shF x k d).hE = x.hE := rfl
  rw [e1]
  omega
theorem shF_at {x : Fleet} {k : Nat} {d : Int} : (shF x k d).net k 0 = x.net k 0 + d := if_pos ⟨rfl, rfl⟩
def pS (x : Fleet) (k : Nat) (d : Nat) : Nat → Nat → Nat → Bool := fun h i j => (decide (i = k) || decide (j = k)) && canH (shF x k d) h i j
def clrB (x : Fleet) (k d : Nat) : Bool := (firstP (x.hE + 1) x.k (pS x k d)).isNone
def shO (x : Fleet) (k n : Nat) : Option Nat := srch (fun d => if clrB x k d then some d else none) n
def shA (x : Fleet) (k most : Int) : Bool := within k 0 ((x.k : Int) - 1) && within most 0 5000
def shV (x : Fleet) (k most : Int) : Int := if Nm.chk x then (if shA x k most then (match shO x k.toNat (most.toNat + 1) with | some d => d | none => 0) else 0) else 0
def shE (x : Fleet) (k most : Int) : Int := if Nm.chk x then (if shA x k most then (match shO x k.toNat (most.toNat + 1) with | some _ => 0 | none => 4) else 22) else 20
theorem sh_some {x : Fleet} {k most : Int} {d : Nat} (hc : Nm.chk x = true) (ha : shA x k most = true) (h : shO x k.toNat (most.toNat + 1) = some d) : shV x k most = d ∧ shE x k most = 0 := by
  unfold shV shE
  rw [if_pos hc, if_pos hc, if_pos ha, if_pos ha, h]
  exact ⟨rfl, rfl⟩
theorem sh_none {x : Fleet} {k most : Int} (hc : Nm.chk x = true) (ha : shA x k most = true) (h : shO x k.toNat (most.toNat + 1) = none) : shV x k most = 0 ∧ shE x k most = 4 := by
  unfold shV shE
  rw [if_pos hc, if_pos hc, if_pos ha, if_pos ha, h]
  exact ⟨rfl, rfl⟩
theorem sh_22 {x : Fleet} {k most : Int} (hc : Nm.chk x = true) (ha : shA x k most = false) : shV x k most = 0 ∧ shE x k most = 22 := by
  unfold shV shE
  rw [if_pos hc, if_pos hc, ha]
  exact ⟨rfl, rfl⟩
theorem sh_20 {x : Fleet} {k most : Int} (hc : ¬ Nm.chk x = true) : shV x k most = 0 ∧ shE x k most = 20 := by
  unfold shV shE
  rw [if_neg hc, if_neg hc]
  exact ⟨rfl, rfl⟩
end Go.Proofs.YtcfmdhlohahhcaaDoor
set_option linter.unusedSimpArgs false
set_option linter.unusedVariables false
namespace Go.Proofs.YtcfmdhlohahhcaaDoor
open Go Go.Sx Nm
set_option maxRecDepth 100000
def sShift : Sig := ⟨Fleet × Int × Int, fun a => [fleetTV a.1, intC a.2.1, intC a.2.2], fun a => a.1.wf, fun a => [.v (intC (shV a.1 a.2.1 a.2.2)), .v (intC (shE a.1 a.2.1 a.2.2))]⟩
def aC0' (x : Fleet) (K n : Nat) : Ann := { G := Nat, ok := fun _ g => g ≤ n ∧ ∀ d, d < g → clrB x K d = false, dom := fun _ => [], tm := fun _ g => [(38, .t (intC g))], hp := fun _ _ => [], mu := fun _ g => n - g }
def cC0 (x : Fleet) (K : Nat) : Ann := { G := Nat, ok := fun st g => isI (st.tm 10) g, dom := fun st => [celN st (osN (st.tm 11)) 3], tm := fun _ _ => [], hp := fun st g => [(celN st (osN (st.tm 11)) 3, .self, some (.row 68 10 x.k (fun i j => .int .i64 ((shF x K g).net i j))))], mu := fun _ _ => 0 }
def aC1' (x : Fleet) (K : Nat) : Ann := { G := Nat × Nat, ok := fun st g => isRow st 2 K ((shF x K g.2).net K 0) ∧ g.1 ≤ x.hE + 1 ∧ ∀ h, h < g.1 → ∀ i, i < x.k → ∀ k, i < k → k < x.k → pS x K g.2 h i k = false, dom := fun _ => [], tm := fun _ g => [(13, .t (intC g.1))], hp := fun _ _ => [], mu := fun _ g => x.hE + 1 - g.1 }
def aC2' (x : Fleet) (K : Nat) : Ann := { G := Nat × Nat × Nat, ok := fun st g => isRow st 1 K ((shF x K g.2.2).net K 0) ∧ isB (st.hp (osN (st.tm 2))) 0 g.2.1 ∧ g.1 ≤ x.k ∧ ∀ i, i < g.1 → ∀ k, i < k → k < x.k → pS x K g.2.2 g.2.1 i k = false, dom := fun _ => [], tm := fun _ g => [(10, .t (intC g.1))], hp := fun _ _ => [], mu := fun _ g => x.k - g.1 }
def aC3' (x : Fleet) (K : Nat) : Ann := { G := Nat × Nat × Nat × Nat, ok := fun st g => isRow st 1 K ((shF x K g.2.2.2).net K 0) ∧ isB (st.hp (osN (st.tm 2))) 0 g.2.2.1 ∧ isI (st.tm 4) g.2.1 ∧ g.2.1 < g.1 ∧ g.1 ≤ x.k ∧ ∀ k, g.2.1 < k → k < g.1 → pS x K g.2.2.2 g.2.2.1 g.2.1 k = false, dom := fun _ => [], tm := fun _ g => [(5, .t (intC g.1))], hp := fun _ _ => [], mu := fun _ g => x.k - g.1 }
theorem q26 (a : sShift.α) (ha : sShift.pre a) : CallQ Tryd.prog E0 26 (sShift.arg a) (sShift.res a) := by
  obtain ⟨x, k, m⟩ := a
  refine bare_say E0_ok TAB TAB_ok [] EvensOk.nil runs { live := true, l := [(26, 7, aC0' x k.toNat (m.toNat + 1)), (64, 2, aC1' x k.toNat), (100, 1, aC2' x k.toNat), (100, 4, aC3' x k.toNat)], c := [(26, 12, cC0 x k.toNat)] } (fuel := 8) ?_
  refine of_red (q := ∃ (x_1 : Fleet), ((True ∧ flq x x_1) ∧ True) ∧ (x_1.hE < (4611686018427387904 : Nat) ∧ x_1.hN < (4611686018427387904 : Nat) ∧ x_1.k < (4611686018427387904 : Nat)) ∧ ((chkE x_1 != (0 : Int)) = true → (True ∧ (0 : Int) = shV x (k, m).fst (k, m).snd) ∧ (True ∧ chkE x_1 = shE x (k, m).fst (k, m).snd) ∧ True) ∧ ((chkE x_1 != (0 : Int)) = false → inRange IntKind.i64 ((↑(opF x_1).k : Int) - (1 : Int)) ∧ ∃ (x_2 : Int × Int × Int), ((True ∧ k = x_2.fst) ∧ (True ∧ (0 : Int) = x_2.snd.fst) ∧ (True ∧ (↑(opF x_1).k : Int) - (1 : Int) = x_2.snd.snd) ∧ True) ∧ True ∧ ((!within x_2.fst x_2.snd.fst x_2.snd.snd) = true → (True ∧ (0 : Int) = shV x (k, m).fst (k, m).snd) ∧ (True ∧ (22 : Int) = shE x (k, m).fst (k, m).snd) ∧ True) ∧ ((!within x_2.fst x_2.snd.fst x_2.snd.snd) = false → ∃ (x_3 : Int × Int × Int), ((True ∧ m = x_3.fst) ∧ (True ∧ (0 : Int) = x_3.snd.fst) ∧ (True ∧ (5000 : Int) = x_3.snd.snd) ∧ True) ∧ True ∧ ((!within x_3.fst x_3.snd.fst x_3.snd.snd) = true → (True ∧ (0 : Int) = shV x (k, m).fst (k, m).snd) ∧ (True ∧ (22 : Int) = shE x (k, m).fst (k, m).snd) ∧ True) ∧ ((!within x_3.fst x_3.snd.fst x_3.snd.snd) = false → inRange IntKind.i64 (m + (1 : Int)) ∧ (∃ (g : Nat), (g ≤ m.toNat + (1 : Nat) ∧ ∀ (d : Nat), d < g → clrB x k.toNat d = false) ∧ True ∧ ((True ∧ (0 : Int) = (↑g : Int)) ∧ True) ∧ True) ∧ ∀ (g : Nat), (g ≤ m.toNat + (1 : Nat) ∧ ∀ (d : Nat), d < g → clrB x k.toNat d = false) → (decide ((↑g : Int) < m + (1 : Int)) = true → ((0 : Nat) + x.k) * (80 : Nat) ≤ (140737488355328 : Nat) ∧ (0 : Nat) + x.k < (4611686018427387904 : Nat) ∧ ((0 : Int) ≤ k ∧ k < (↑((0 : Nat) + x.k) : Int) ∧ inRange IntKind.i64 (x.net (k.toNat - (0 : Nat)) (0 : Nat) + (↑g : Int)) ∧ (0 : Int) ≤ k ∧ k < (↑((0 : Nat) + x.k) : Int) ∧ ∃ (g_1 : Nat), (↑g : Int) = (↑g_1 : Int) ∧ True ∧ True ∧ (True ∧ True ∧ (0 : Nat) + x.k = x.k ∧ ∀ (i : Nat), i < (0 : Nat) + x.k → (((((((((True ∧ (if i = k.toNat then x.net (k.toNat - (0 : Nat)) (0 : Nat) + (↑g : Int) else x.net (i - (0 : Nat)) 0) = (shF x k.toNat (↑g_1 : Int)).net i 0) ∧ (if i = k.toNat then x.net (k.toNat - (0 : Nat)) 1 else x.net (i - (0 : Nat)) 1) = (shF x k.toNat (↑g_1 : Int)).net i 1) ∧ (if i = k.toNat then x.net (k.toNat - (0 : Nat)) 2 else x.net (i - (0 : Nat)) 2) = (shF x k.toNat (↑g_1 : Int)).net i 2) ∧ (if i = k.toNat then x.net (k.toNat - (0 : Nat)) 3 else x.net (i - (0 : Nat)) 3) = (shF x k.toNat (↑g_1 : Int)).net i 3) ∧ (if i = k.toNat then x.net (k.toNat - (0 : Nat)) 4 else x.net (i - (0 : Nat)) 4) = (shF x k.toNat (↑g_1 : Int)).net i 4) ∧ (if i = k.toNat then x.net (k.toNat - (0 : Nat)) 5 else x.net (i - (0 : Nat)) 5) = (shF x k.toNat (↑g_1 : Int)).net i 5) ∧ (if i = k.toNat then x.net (k.toNat - (0 : Nat)) 6 else x.net (i - (0 : Nat)) 6) = (shF x k.toNat (↑g_1 : Int)).net i 6) ∧ (if i = k.toNat then x.net (k.toNat - (0 : Nat)) 7 else x.net (i - (0 : Nat)) 7) = (shF x k.toNat (↑g_1 : Int)).net i 7) ∧ (if i = k.toNat then x.net (k.toNat - (0 : Nat)) 8 else x.net (i - (0 : Nat)) 8) = (shF x k.toNat (↑g_1 : Int)).net i 8) ∧ (if i = k.toNat then x.net (k.toNat - (0 : Nat)) 9 else x.net (i - (0 : Nat)) 9) = (shF x k.toNat (↑g_1 : Int)).net i 9) ∧ True) ∧ ∀ (g_1 : Nat), (↑g : Int) = (↑g_1 : Int) → inRange IntKind.i64 ((↑x.hE : Int) + (1 : Int)) ∧ (∃ (g : Nat × Nat), ((shF x k.toNat (↑g_1 : Int)).net k.toNat (0 : Nat) = (shF x k.toNat (↑g.snd : Int)).net k.toNat (0 : Nat) ∧ g.fst ≤ x.hE + (1 : Nat) ∧ ∀ (h : Nat), h < g.fst → ∀ (i : Nat), i < x.k → ∀ (k_1 : Nat), i < k_1 → k_1 < x.k → pS x k.toNat g.snd h i k_1 = false) ∧ True ∧ ((True ∧ (0 : Int) = (↑g.fst : Int)) ∧ True) ∧ True) ∧ ∀ (g_2 : Nat × Nat), ((shF x k.toNat (↑g_1 : Int)).net k.toNat (0 : Nat) = (shF x k.toNat (↑g_2.snd : Int)).net k.toNat (0 : Nat) ∧ g_2.fst ≤ x.hE + (1 : Nat) ∧ ∀ (h : Nat), h < g_2.fst → ∀ (i : Nat), i < x.k → ∀ (k_1 : Nat), i < k_1 → k_1 < x.k → pS x k.toNat g_2.snd h i k_1 = false) → (decide ((↑g_2.fst : Int) < (↑x.hE : Int) + (1 : Int)) = true → (∃ (g : Nat × Nat × Nat), ((shF x k.toNat (↑g_1 : Int)).net k.toNat (0 : Nat) = (shF x k.toNat (↑g.snd.snd : Int)).net k.toNat (0 : Nat) ∧ (↑g_2.fst : Int) = (↑g.snd.fst : Int) ∧ g.fst ≤ x.k ∧ ∀ (i : Nat), i < g.fst → ∀ (k_1 : Nat), i < k_1 → k_1 < x.k → pS x k.toNat g.snd.snd g.snd.fst i k_1 = false) ∧ True ∧ ((True ∧ (0 : Int) = (↑g.fst : Int)) ∧ True) ∧ True) ∧ ∀ (g_3 : Nat × Nat × Nat), ((shF x k.toNat (↑g_1 : Int)).net k.toNat (0 : Nat) = (shF x k.toNat (↑g_3.snd.snd : Int)).net k.toNat (0 : Nat) ∧ (↑g_2.fst : Int) = (↑g_3.snd.fst : Int) ∧ g_3.fst ≤ x.k ∧ ∀ (i : Nat), i < g_3.fst → ∀ (k_1 : Nat), i < k_1 → k_1 < x.k → pS x k.toNat g_3.snd.snd g_3.snd.fst i k_1 = false) → (decide ((↑g_3.fst : Int) < (↑((0 : Nat) + x.k) : Int)) = true → inRange IntKind.i64 ((↑g_3.fst : Int) + (1 : Int)) ∧ (∃ (g : Nat × Nat × Nat × Nat), ((shF x k.toNat (↑g_1 : Int)).net k.toNat (0 : Nat) = (shF x k.toNat (↑g.snd.snd.snd : Int)).net k.toNat (0 : Nat) ∧ (↑g_2.fst : Int) = (↑g.snd.snd.fst : Int) ∧ (↑g_3.fst : Int) = (↑g.snd.fst : Int) ∧ g.snd.fst < g.fst ∧ g.fst ≤ x.k ∧ ∀ (k_1 : Nat), g.snd.fst < k_1 → k_1 < g.fst → pS x k.toNat g.snd.snd.snd g.snd.snd.fst g.snd.fst k_1 = false) ∧ True ∧ ((True ∧ (↑g_3.fst : Int) + (1 : Int) = (↑g.fst : Int)) ∧ True) ∧ True) ∧ ∀ (g_4 : Nat × Nat × Nat × Nat), ((shF x k.toNat (↑g_1 : Int)).net k.toNat (0 : Nat) = (shF x k.toNat (↑g_4.snd.snd.snd : Int)).net k.toNat (0 : Nat) ∧ (↑g_2.fst : Int) = (↑g_4.snd.snd.fst : Int) ∧ (↑g_3.fst : Int) = (↑g_4.snd.fst : Int) ∧ g_4.snd.fst < g_4.fst ∧ g_4.fst ≤ x.k ∧ ∀ (k_1 : Nat), g_4.snd.fst < k_1 → k_1 < g_4.fst → pS x k.toNat g_4.snd.snd.snd g_4.snd.snd.fst g_4.snd.fst k_1 = false) → (decide ((↑g_4.fst : Int) < (↑((0 : Nat) + x.k) : Int)) = true → ∃ (x_4 : Fleet × Int), ((True ∧ (((True ∧ True ∧ True ∧ x.hE = x_4.fst.hE ∧ ∀ (i : Nat), i < x.hE → (True ∧ x.e i 0 = x_4.fst.e i 0) ∧ x.e i 1 = x_4.fst.e i 1) ∧ True ∧ True ∧ x.hN = x_4.fst.hN ∧ ∀ (i : Nat), i < x.hN → (True ∧ x.n i 0 = x_4.fst.n i 0) ∧ x.n i 1 = x_4.fst.n i 1) ∧ True ∧ x.gap = x_4.fst.gap) ∧ True ∧ True ∧ x.k = x_4.fst.k ∧ ∀ (i : Nat), i < x.k → (((((((((True ∧ (shF x k.toNat (↑g_1 : Int)).net i 0 = x_4.fst.net i 0) ∧ (shF x k.toNat (↑g_1 : Int)).net i 1 = x_4.fst.net i 1) ∧ (shF x k.toNat (↑g_1 : Int)).net i 2 = x_4.fst.net i 2) ∧ (shF x k.toNat (↑g_1 : Int)).net i 3 = x_4.fst.net i 3) ∧ (shF x k.toNat (↑g_1 : Int)).net i 4 = x_4.fst.net i 4) ∧ (shF x k.toNat (↑g_1 : Int)).net i 5 = x_4.fst.net i 5) ∧ (shF x k.toNat (↑g_1 : Int)).net i 6 = x_4.fst.net i 6) ∧ (shF x k.toNat (↑g_1 : Int)).net i 7 = x_4.fst.net i 7) ∧ (shF x k.toNat (↑g_1 : Int)).net i 8 = x_4.fst.net i 8) ∧ (shF x k.toNat (↑g_1 : Int)).net i 9 = x_4.fst.net i 9) ∧ (True ∧ (↑g_3.fst : Int) = x_4.snd) ∧ True) ∧ ((x_4.fst.hE < (4611686018427387904 : Nat) ∧ x_4.fst.hN < (4611686018427387904 : Nat) ∧ x_4.fst.k < (4611686018427387904 : Nat)) ∧ (0 : Int) ≤ x_4.snd ∧ x_4.snd < (↑x_4.fst.k : Int)) ∧ ∃ (x_5 : (Nat → Int) × Int), ((True ∧ (((((((((True ∧ True ∧ x_4.fst.net x_4.snd.toNat 0 = x_5.fst 0) ∧ True ∧ x_4.fst.net x_4.snd.toNat 1 = x_5.fst 1) ∧ True ∧ x_4.fst.net x_4.snd.toNat 2 = x_5.fst 2) ∧ True ∧ x_4.fst.net x_4.snd.toNat 3 = x_5.fst 3) ∧ True ∧ x_4.fst.net x_4.snd.toNat 4 = x_5.fst 4) ∧ True ∧ x_4.fst.net x_4.snd.toNat 5 = x_5.fst 5) ∧ True ∧ x_4.fst.net x_4.snd.toNat 6 = x_5.fst 6) ∧ True ∧ x_4.fst.net x_4.snd.toNat 7 = x_5.fst 7) ∧ True ∧ x_4.fst.net x_4.snd.toNat 8 = x_5.fst 8) ∧ True ∧ x_4.fst.net x_4.snd.toNat 9 = x_5.fst 9) ∧ (True ∧ (↑g_2.fst : Int) = x_5.snd) ∧ True) ∧ True ∧ (within x_5.snd (x_5.fst (4 : Nat)) (x_5.fst (5 : Nat)) = true → ∃ (x_6 : Fleet × Int), ((True ∧ (((True ∧ True ∧ True ∧ x.hE = x_6.fst.hE ∧ ∀ (i : Nat), i < x.hE → (True ∧ x.e i 0 = x_6.fst.e i 0) ∧ x.e i 1 = x_6.fst.e i 1) ∧ True ∧ True ∧ x.hN = x_6.fst.hN ∧ ∀ (i : Nat), i < x.hN → (True ∧ x.n i 0 = x_6.fst.n i 0) ∧ x.n i 1 = x_6.fst.n i 1) ∧ True ∧ x.gap = x_6.fst.gap) ∧ True ∧ True ∧ x.k = x_6.fst.k ∧ ∀ (i : Nat), i < x.k → (((((((((True ∧ (shF x k.toNat (↑g_1 : Int)).net i 0 = x_6.fst.net i 0) ∧ (shF x k.toNat (↑g_1 : Int)).net i 1 = x_6.fst.net i 1) ∧ (shF x k.toNat (↑g_1 : Int)).net i 2 = x_6.fst.net i 2) ∧ (shF x k.toNat (↑g_1 : Int)).net i 3 = x_6.fst.net i 3) ∧ (shF x k.toNat (↑g_1 : Int)).net i 4 = x_6.fst.net i 4) ∧ (shF x k.toNat (↑g_1 : Int)).net i 5 = x_6.fst.net i 5) ∧ (shF x k.toNat (↑g_1 : Int)).net i 6 = x_6.fst.net i 6) ∧ (shF x k.toNat (↑g_1 : Int)).net i 7 = x_6.fst.net i 7) ∧ (shF x k.toNat (↑g_1 : Int)).net i 8 = x_6.fst.net i 8) ∧ (shF x k.toNat (↑g_1 : Int)).net i 9 = x_6.fst.net i 9) ∧ (True ∧ (↑g_4.fst : Int) = x_6.snd) ∧ True) ∧ ((x_6.fst.hE < (4611686018427387904 : Nat) ∧ x_6.fst.hN < (4611686018427387904 : Nat) ∧ x_6.fst.k < (4611686018427387904 : Nat)) ∧ (0 : Int) ≤ x_6.snd ∧ x_6.snd < (↑x_6.fst.k : Int)) ∧ ∃ (x_7 : (Nat → Int) × Int), ((True ∧ (((((((((True ∧ True ∧ x_6.fst.net x_6.snd.toNat 0 = x_7.fst 0) ∧ True ∧ x_6.fst.net x_6.snd.toNat 1 = x_7.fst 1) ∧ True ∧ x_6.fst.net x_6.snd.toNat 2 = x_7.fst 2) ∧ True ∧ x_6.fst.net x_6.snd.toNat 3 = x_7.fst 3) ∧ True ∧ x_6.fst.net x_6.snd.toNat 4 = x_7.fst 4) ∧ True ∧ x_6.fst.net x_6.snd.toNat 5 = x_7.fst 5) ∧ True ∧ x_6.fst.net x_6.snd.toNat 6 = x_7.fst 6) ∧ True ∧ x_6.fst.net x_6.snd.toNat 7 = x_7.fst 7) ∧ True ∧ x_6.fst.net x_6.snd.toNat 8 = x_7.fst 8) ∧ True ∧ x_6.fst.net x_6.snd.toNat 9 = x_7.fst 9) ∧ (True ∧ (↑g_2.fst : Int) = x_7.snd) ∧ True) ∧ True ∧ (within x_7.snd (x_7.fst (4 : Nat)) (x_7.fst (5 : Nat)) = true → (((↑g_3.fst : Int) == k) = true → ∃ (x_8 : Ask), ((True ∧ (((True ∧ True ∧ True ∧ x.hE = x_8.x.hE ∧ ∀ (i : Nat), i < x.hE → (True ∧ x.e i 0 = x_8.x.e i 0) ∧ x.e i 1 = x_8.x.e i 1) ∧ True ∧ True ∧ x.hN = x_8.x.hN ∧ ∀ (i : Nat), i < x.hN → (True ∧ x.n i 0 = x_8.x.n i 0) ∧ x.n i 1 = x_8.x.n i 1) ∧ True ∧ x.gap = x_8.x.gap) ∧ True ∧ True ∧ x.k = x_8.x.k ∧ ∀ (i : Nat), i < x.k → (((((((((True ∧ (shF x k.toNat (↑g_1 : Int)).net i 0 = x_8.x.net i 0) ∧ (shF x k.toNat (↑g_1 : Int)).net i 1 = x_8.x.net i 1) ∧ (shF x k.toNat (↑g_1 : Int)).net i 2 = x_8.x.net i 2) ∧ (shF x k.toNat (↑g_1 : Int)).net i 3 = x_8.x.net i 3) ∧ (shF x k.toNat (↑g_1 : Int)).net i 4 = x_8.x.net i 4) ∧ (shF x k.toNat (↑g_1 : Int)).net i 5 = x_8.x.net i 5) ∧ (shF x k.toNat (↑g_1 : Int)).net i 6 = x_8.x.net i 6) ∧ (shF x k.toNat (↑g_1 : Int)).net i 7 = x_8.x.net i 7) ∧ (shF x k.toNat (↑g_1 : Int)).net i 8 = x_8.x.net i 8) ∧ (shF x k.toNat (↑g_1 : Int)).net i 9 = x_8.x.net i 9) ∧ (True ∧ (True ∧ True ∧ (↑g_3.fst : Int) = (↑x_8.i : Int)) ∧ True ∧ (↑g_4.fst : Int) = (↑x_8.k : Int)) ∧ (True ∧ (↑g_2.fst : Int) = x_8.h) ∧ True) ∧ (ChkW x_8.x ∧ (x_8.x.hE < (4611686018427387904 : Nat) ∧ x_8.x.hN < (4611686018427387904 : Nat) ∧ x_8.x.k < (4611686018427387904 : Nat)) ∧ x_8.i < x_8.x.k ∧ x_8.k < x_8.x.k ∧ (0 : Int) ≤ x_8.h ∧ x_8.h ≤ (24 : Int)) ∧ (canP x_8 = true → (((0 : Int) == (4 : Int)) = true → (True ∧ (↑g : Int) = shV x (k, m).fst (k, m).snd) ∧ (True ∧ (0 : Int) = shE x (k, m).fst (k, m).snd) ∧ True) ∧ (((0 : Int) == (4 : Int)) = false → inRange IntKind.i64 ((↑g : Int) + (1 : Int)) ∧ ∃ (g' : Nat), (g' ≤ m.toNat + (1 : Nat) ∧ ∀ (d : Nat), d < g' → clrB x k.toNat d = false) ∧ m.toNat + (1 : Nat) - g' < m.toNat + (1 : Nat) - g ∧ True ∧ ((True ∧ (↑g : Int) + (1 : Int) = (↑g' : Int)) ∧ True) ∧ True)) ∧ (canP x_8 = false → inRange IntKind.i64 ((↑g_4.fst : Int) + (1 : Int)) ∧ ∃ (g' : Nat × Nat × Nat × Nat), ((shF x k.toNat (↑g_1 : Int)).net k.toNat (0 : Nat) = (shF x k.toNat (↑g'.snd.snd.snd : Int)).net k.toNat (0 : Nat) ∧ (↑g_2.fst : Int) = (↑g'.snd.snd.fst : Int) ∧ (↑g_3.fst : Int) = (↑g'.snd.fst : Int) ∧ g'.snd.fst < g'.fst ∧ g'.fst ≤ x.k ∧ ∀ (k_1 : Nat), g'.snd.fst < k_1 → k_1 < g'.fst → pS x k.toNat g'.snd.snd.snd g'.snd.snd.fst g'.snd.fst k_1 = false) ∧ x.k - g'.fst < x.k - g_4.fst ∧ True ∧ ((True ∧ (↑g_4.fst : Int) + (1 : Int) = (↑g'.fst : Int)) ∧ True) ∧ True)) ∧ (((↑g_3.fst : Int) == k) = false → (((↑g_4.fst : Int) == k) = true → ∃ (x_8 : Ask), ((True ∧ (((True ∧ True ∧ True ∧ x.hE = x_8.x.hE ∧ ∀ (i : Nat), i < x.hE → (True ∧ x.e i 0 = x_8.x.e i 0) ∧ x.e i 1 = x_8.x.e i 1) ∧ True ∧ True ∧ x.hN = x_8.x.hN ∧ ∀ (i : Nat), i < x.hN → (True ∧ x.n i 0 = x_8.x.n i 0) ∧ x.n i 1 = x_8.x.n i 1) ∧ True ∧ x.gap = x_8.x.gap) ∧ True ∧ True ∧ x.k = x_8.x.k ∧ ∀ (i : Nat), i < x.k → (((((((((True ∧ (shF x k.toNat (↑g_1 : Int)).net i 0 = x_8.x.net i 0) ∧ (shF x k.toNat (↑g_1 : Int)).net i 1 = x_8.x.net i 1) ∧ (shF x k.toNat (↑g_1 : Int)).net i 2 = x_8.x.net i 2) ∧ (shF x k.toNat (↑g_1 : Int)).net i 3 = x_8.x.net i 3) ∧ (shF x k.toNat (↑g_1 : Int)).net i 4 = x_8.x.net i 4) ∧ (shF x k.toNat (↑g_1 : Int)).net i 5 = x_8.x.net i 5) ∧ (shF x k.toNat (↑g_1 : Int)).net i 6 = x_8.x.net i 6) ∧ (shF x k.toNat (↑g_1 : Int)).net i 7 = x_8.x.net i 7) ∧ (shF x k.toNat (↑g_1 : Int)).net i 8 = x_8.x.net i 8) ∧ (shF x k.toNat (↑g_1 : Int)).net i 9 = x_8.x.net i 9) ∧ (True ∧ (True ∧ True ∧ (↑g_3.fst : Int) = (↑x_8.i : Int)) ∧ True ∧ (↑g_4.fst : Int) = (↑x_8.k : Int)) ∧ (True ∧ (↑g_2.fst : Int) = x_8.h) ∧ True) ∧ (ChkW x_8.x ∧ (x_8.x.hE < (4611686018427387904 : Nat) ∧ x_8.x.hN < (4611686018427387904 : Nat) ∧ x_8.x.k < (4611686018427387904 : Nat)) ∧ x_8.i < x_8.x.k ∧ x_8.k < x_8.x.k ∧ (0 : Int) ≤ x_8.h ∧ x_8.h ≤ (24 : Int)) ∧ (canP x_8 = true → (((0 : Int) == (4 : Int)) = true → (True ∧ (↑g : Int) = shV x (k, m).fst (k, m).snd) ∧ (True ∧ (0 : Int) = shE x (k, m).fst (k, m).snd) ∧ True) ∧ (((0 : Int) == (4 : Int)) = false → inRange IntKind.i64 ((↑g : Int) + (1 : Int)) ∧ ∃ (g' : Nat), (g' ≤ m.toNat + (1 : Nat) ∧ ∀ (d : Nat), d < g' → clrB x k.toNat d = false) ∧ m.toNat + (1 : Nat) - g' < m.toNat + (1 : Nat) - g ∧ True ∧ ((True ∧ (↑g : Int) + (1 : Int) = (↑g' : Int)) ∧ True) ∧ True)) ∧ (canP x_8 = false → inRange IntKind.i64 ((↑g_4.fst : Int) + (1 : Int)) ∧ ∃ (g' : Nat × Nat × Nat × Nat), ((shF x k.toNat (↑g_1 : Int)).net k.toNat (0 : Nat) = (shF x k.toNat (↑g'.snd.snd.snd : Int)).net k.toNat (0 : Nat) ∧ (↑g_2.fst : Int) = (↑g'.snd.snd.fst : Int) ∧ (↑g_3.fst : Int) = (↑g'.snd.fst : Int) ∧ g'.snd.fst < g'.fst ∧ g'.fst ≤ x.k ∧ ∀ (k_1 : Nat), g'.snd.fst < k_1 → k_1 < g'.fst → pS x k.toNat g'.snd.snd.snd g'.snd.snd.fst g'.snd.fst k_1 = false) ∧ x.k - g'.fst < x.k - g_4.fst ∧ True ∧ ((True ∧ (↑g_4.fst : Int) + (1 : Int) = (↑g'.fst : Int)) ∧ True) ∧ True)) ∧ (((↑g_4.fst : Int) == k) = false → inRange IntKind.i64 ((↑g_4.fst : Int) + (1 : Int)) ∧ ∃ (g' : Nat × Nat × Nat × Nat), ((shF x k.toNat (↑g_1 : Int)).net k.toNat (0 : Nat) = (shF x k.toNat (↑g'.snd.snd.snd : Int)).net k.toNat (0 : Nat) ∧ (↑g_2.fst : Int) = (↑g'.snd.snd.fst : Int) ∧ (↑g_3.fst : Int) = (↑g'.snd.fst : Int) ∧ g'.snd.fst < g'.fst ∧ g'.fst ≤ x.k ∧ ∀ (k_1 : Nat), g'.snd.fst < k_1 → k_1 < g'.fst → pS x k.toNat g'.snd.snd.snd g'.snd.snd.fst g'.snd.fst k_1 = false) ∧ x.k - g'.fst < x.k - g_4.fst ∧ True ∧ ((True ∧ (↑g_4.fst : Int) + (1 : Int) = (↑g'.fst : Int)) ∧ True) ∧ True))) ∧ (within x_7.snd (x_7.fst (4 : Nat)) (x_7.fst (5 : Nat)) = false → inRange IntKind.i64 ((↑g_4.fst : Int) + (1 : Int)) ∧ ∃ (g' : Nat × Nat × Nat × Nat), ((shF x k.toNat (↑g_1 : Int)).net k.toNat (0 : Nat) = (shF x k.toNat (↑g'.snd.snd.snd : Int)).net k.toNat (0 : Nat) ∧ (↑g_2.fst : Int) = (↑g'.snd.snd.fst : Int) ∧ (↑g_3.fst : Int) = (↑g'.snd.fst : Int) ∧ g'.snd.fst < g'.fst ∧ g'.fst ≤ x.k ∧ ∀ (k_1 : Nat), g'.snd.fst < k_1 → k_1 < g'.fst → pS x k.toNat g'.snd.snd.snd g'.snd.snd.fst g'.snd.fst k_1 = false) ∧ x.k - g'.fst < x.k - g_4.fst ∧ True ∧ ((True ∧ (↑g_4.fst : Int) + (1 : Int) = (↑g'.fst : Int)) ∧ True) ∧ True)) ∧ (within x_5.snd (x_5.fst (4 : Nat)) (x_5.fst (5 : Nat)) = false → inRange IntKind.i64 ((↑g_4.fst : Int) + (1 : Int)) ∧ ∃ (g' : Nat × Nat × Nat × Nat), ((shF x k.toNat (↑g_1 : Int)).net k.toNat (0 : Nat) = (shF x k.toNat (↑g'.snd.snd.snd : Int)).net k.toNat (0 : Nat) ∧ (↑g_2.fst : Int) = (↑g'.snd.snd.fst : Int) ∧ (↑g_3.fst : Int) = (↑g'.snd.fst : Int) ∧ g'.snd.fst < g'.fst ∧ g'.fst ≤ x.k ∧ ∀ (k_1 : Nat), g'.snd.fst < k_1 → k_1 < g'.fst → pS x k.toNat g'.snd.snd.snd g'.snd.snd.fst g'.snd.fst k_1 = false) ∧ x.k - g'.fst < x.k - g_4.fst ∧ True ∧ ((True ∧ (↑g_4.fst : Int) + (1 : Int) = (↑g'.fst : Int)) ∧ True) ∧ True)) ∧ (decide ((↑g_4.fst : Int) < (↑((0 : Nat) + x.k) : Int)) = false → inRange IntKind.i64 ((↑g_3.fst : Int) + (1 : Int)) ∧ ∃ (g' : Nat × Nat × Nat), ((shF x k.toNat (↑g_1 : Int)).net k.toNat (0 : Nat) = (shF x k.toNat (↑g'.snd.snd : Int)).net k.toNat (0 : Nat) ∧ (↑g_2.fst : Int) = (↑g'.snd.fst : Int) ∧ g'.fst ≤ x.k ∧ ∀ (i : Nat), i < g'.fst → ∀ (k_1 : Nat), i < k_1 → k_1 < x.k → pS x k.toNat g'.snd.snd g'.snd.fst i k_1 = false) ∧ x.k - g'.fst < x.k - g_3.fst ∧ True ∧ ((True ∧ (↑g_3.fst : Int) + (1 : Int) = (↑g'.fst : Int)) ∧ True) ∧ True)) ∧ (decide ((↑g_3.fst : Int) < (↑((0 : Nat) + x.k) : Int)) = false → inRange IntKind.i64 ((↑g_2.fst : Int) + (1 : Int)) ∧ ∃ (g' : Nat × Nat), ((shF x k.toNat (↑g_1 : Int)).net k.toNat (0 : Nat) = (shF x k.toNat (↑g'.snd : Int)).net k.toNat (0 : Nat) ∧ g'.fst ≤ x.hE + (1 : Nat) ∧ ∀ (h : Nat), h < g'.fst → ∀ (i : Nat), i < x.k → ∀ (k_1 : Nat), i < k_1 → k_1 < x.k → pS x k.toNat g'.snd h i k_1 = false) ∧ x.hE + (1 : Nat) - g'.fst < x.hE + (1 : Nat) - g_2.fst ∧ True ∧ ((True ∧ (↑g_2.fst : Int) + (1 : Int) = (↑g'.fst : Int)) ∧ True) ∧ True)) ∧ (decide ((↑g_2.fst : Int) < (↑x.hE : Int) + (1 : Int)) = false → (((4 : Int) == (4 : Int)) = true → (True ∧ (↑g : Int) = shV x (k, m).fst (k, m).snd) ∧ (True ∧ (0 : Int) = shE x (k, m).fst (k, m).snd) ∧ True) ∧ (((4 : Int) == (4 : Int)) = false → inRange IntKind.i64 ((↑g : Int) + (1 : Int)) ∧ ∃ (g' : Nat), (g' ≤ m.toNat + (1 : Nat) ∧ ∀ (d : Nat), d < g' → clrB x k.toNat d = false) ∧ m.toNat + (1 : Nat) - g' < m.toNat + (1 : Nat) - g ∧ True ∧ ((True ∧ (↑g : Int) + (1 : Int) = (↑g' : Int)) ∧ True) ∧ True))) ∧ (decide ((↑g : Int) < m + (1 : Int)) = false → (True ∧ (0 : Int) = shV x (k, m).fst (k, m).snd) ∧ (True ∧ (4 : Int) = shE x (k, m).fst (k, m).snd) ∧ True))))) (by kernel_rfl) ?_
  simp only [flq, true_and, and_true, inR, Prod.exists, Prod.forall, and_assoc, exists_and_left, exists_eq_left', exists_eq_left, forall_eq, exists_const, forall_const, loopN, loopM, fa2, fas, fas2, dup1, dup2, dup3, dup4, ite_true, exhs, exhn, exhz, exho, exs1, exn1, exz1, exo1, exs2, exn2, exz2, exo2, exs3, exn3, exz3, exo3, exs4, exn4, exz4, exo4, exs5, exn5, exz5, exo5, exs6, exn6, exz6, exo6, exs7, exn7, exz7, exo7, exs8, exn8, exz8, exo8, exs9, exn9, exz9, exo9, ex1, ex2, ex3, ex4, ex5, beqI, bneI, decide_true, Bool.true_and, decide_eq_true_eq, decide_eq_false_iff_not, ne_eq, Decidable.not_not]
  simp only [Nat.zero_add, Nat.sub_zero, Int.toNat_natCast]
  obtain ⟨w1, w2, w3⟩ := (show x.wf from ha)
  refine exF ⟨w1, w2, w3, fun e => ?_, fun e => ?_⟩
  · obtain ⟨hc, e20⟩ := not_chk e
    obtain ⟨a1, a2⟩ := sh_20 (k := k) (most := m) hc
    exact ⟨a1.symm, by rw [a2, e20]⟩
  · have hc := chk_of e
    rw [opF_eq hc]
    obtain ⟨s1, s2, s3, s4, s5, s6, s7⟩ := chk_size hc
    have f22 : shA x k m = false → 0 = shV x k m ∧ 22 = shE x k m := fun hf => by
      obtain ⟨a1, a2⟩ := sh_22 hc hf
      exact ⟨a1.symm, a2.symm⟩
    refine ⟨by omega, by omega, fun h1 => f22 ?_, fun h1 => ⟨fun h2 => f22 ?_, fun h2 => ?_⟩⟩
    · rw [Bool.not_eq_true'] at h1
      unfold shA; rw [h1]; rfl
    · rw [Bool.not_eq_true'] at h2
      unfold shA; rw [h2]; simp
    · rw [Bool.not_eq_false'] at h1 h2
      have g1 := Nm.within_iff.1 h1
      have g2 := Nm.within_iff.1 h2
      have hA : shA x k m = true := by unfold shA; rw [h1, h2]; rfl
      obtain ⟨K, hK⟩ : ∃ K, K = k.toNat := ⟨_, rfl⟩
      have hK' : k = (K : Int) := by omega
      have hKk : K < x.k := by omega
      rw [← hK]
      have dEq : ∀ g b : Nat, (shF x K g).net K 0 = (shF x K b).net K 0 → g = b := fun g b h => by
        rw [shF_at, shF_at] at h; omega
      obtain ⟨⟨k1, k2⟩, _⟩ := chk_net hc hKk
      refine ⟨by omega, by omega, by omega, fun d hd => absurd hd (Nat.not_lt_zero d), fun g ⟨hg, hG⟩ => ⟨fun hlt => ?_, fun hge => ?_⟩⟩
      · have hW := shF_chk (k := K) (d := (g : Int)) hc (by omega) (by omega)
        have stop : ∀ h i j, h < x.hE + 1 → i < j → j < x.k → pS x K g h i j = true → ∀ d, d < g + 1 → clrB x K d = false := fun h i j q1 q2 q3 q4 d hd => by
          by_cases c : d = g
          · subst c
            unfold clrB
            cases hf : firstP (x.hE + 1) x.k (pS x K d) with
            | some _ => rfl
            | none => rw [firstP_none.1 hf h q1 i (by omega) j q3 q2] at q4; cases q4
          · exact hG d (by omega)
        refine ⟨by omega, by omega, by omega, by omega, by omega, by omega, by omega, by omega, trivial, fun i hi => ?_, by omega, by omega, ⟨0, g, rfl, by omega, fun h hh => absurd hh (Nat.not_lt_zero h), rfl⟩, fun h b ⟨hb, hh, hH⟩ => ?_⟩
        · by_cases c : i = K
          · subst c
            have q0 : (shF x i g).net i 0 = x.net i 0 + g := shF_at
            have q : ∀ j, 0 < j → (shF x i g).net i j = x.net i j := fun j hj => by
              show (if i = i ∧ j = 0 then x.net i 0 + (g : Int) else x.net i j) = _
              rw [if_neg (by omega)]
            rw [q0, q 1 (by omega), q 2 (by omega), q 3 (by omega), q 4 (by omega), q 5 (by omega), q 6 (by omega), q 7 (by omega), q 8 (by omega), q 9 (by omega)]
            simp only [if_true, and_self]
          · have q : ∀ j, (shF x K g).net i j = x.net i j := fun j => by
              show (if i = K ∧ j = 0 then x.net i 0 + (g : Int) else x.net i j) = _
              rw [if_neg (fun h => c h.1)]
            rw [q 0, q 1, q 2, q 3, q 4, q 5, q 6, q 7, q 8, q 9]
            simp only [c, if_false, and_self]
        · obtain rfl := dEq g b hb
          refine ⟨fun hlt2 => ⟨⟨0, h, g, rfl, rfl, by omega, fun i hi => absurd hi (Nat.not_lt_zero i), rfl⟩, fun i h' b ⟨hb, eh, hi, hI⟩ => ?_⟩, fun hge2 => ?_⟩
          · obtain rfl := dEq g b hb
            obtain rfl : h = h' := by omega
            refine ⟨fun hlt3 => ⟨by omega, by omega, ⟨i + 1, i, h, g, rfl, rfl, rfl, by omega, by omega, fun j h1 h2 => by omega, by omega⟩, fun j i' h' b ⟨hb, eh, ei, hj1, hj2, hJ⟩ => ?_⟩, fun hge3 => ⟨by omega, by omega, h + 1, g, rfl, by omega, fun h' hh' i' hi' j hij hj => ?_, by omega, by omega⟩⟩
            · obtain rfl := dEq g b hb
              obtain rfl : h = h' := by omega
              obtain rfl : i = i' := by omega
              refine ⟨fun hlt4 => ?_, fun hge4 => ⟨by omega, by omega, i + 1, h, g, rfl, rfl, by omega, fun i' hi' j' hij hj' => ?_, by omega, by omega⟩⟩
              · have next : pS x K g h i j = false → -9223372036854775808 ≤ (j : Int) + 1 ∧ (j : Int) + 1 ≤ 9223372036854775807 ∧ ∃ a_20 a_21 a_22 b : Nat, (shF x K g).net K 0 = (shF x K b).net K 0 ∧ (h : Int) = a_22 ∧ (i : Int) = a_21 ∧ a_21 < a_20 ∧ a_20 ≤ x.k ∧ (∀ k_1, a_21 < k_1 → k_1 < a_20 → pS x K b a_22 a_21 k_1 = false) ∧ x.k - a_20 < x.k - j ∧ (j : Int) + 1 = a_20 := fun hf =>
                  ⟨by omega, by omega, j + 1, i, h, g, rfl, rfl, rfl, by omega, by omega, fun j' h1 h2 => by
                    by_cases c : j' = j
                    · rw [c]; exact hf
                    · exact hJ j' h1 (by omega), by omega, by omega⟩
                have ly : ∀ q : Nat, q < x.k → lyB (shF x K g) q h = within h ((shF x K g).net q 4) ((shF x K g).net q 5) := fun q hq => by
                  unfold lyB
                  have e : (shF x K g).k = x.k := rfl
                  rw [Int.toNat_natCast, e, show within (q : Int) 0 ((x.k : Int) - 1) = true from Nm.within_iff.2 (by omega)]; rfl
                have eP : pS x K g h i j = ((decide (i = K) || decide (j = K)) && (within h ((shF x K g).net i 4) ((shF x K g).net i 5) && within h ((shF x K g).net j 4) ((shF x K g).net j 5) && canP ⟨shF x K g, i, j, h⟩)) := by
                  unfold pS canH; rw [ly i (by omega), ly j (by omega)]
                refine exF (x := shF x K g) ⟨w1, w2, w3, by omega, by show (i : Int) < (x.k : Int); omega, exNet ⟨fun l1 => exF (x := shF x K g) ⟨w1, w2, w3, by omega, by show (j : Int) < (x.k : Int); omega, exNet ⟨fun l2 => ⟨fun iK => ⟨⟨shF x K g, i, j, h⟩, rfl, fun _ _ => ⟨rfl, rfl⟩, rfl, fun _ _ => ⟨rfl, rfl⟩, rfl, rfl, fun _ _ => ⟨rfl, rfl, rfl, rfl, rfl, rfl, rfl, rfl, rfl, rfl⟩, rfl, rfl, rfl, hW, w1, w2, w3, by show i < x.k; omega, by show j < x.k; omega, by show (0 : Int) ≤ (h : Int); omega, by show (h : Int) ≤ 24; omega, fun hp => ⟨fun h04 => absurd h04 (by omega), fun _ => ⟨by omega, by omega, by omega, fun d hd => ?_, by omega⟩⟩, fun hp => next ?_⟩, fun iK => ⟨fun jK => ⟨⟨shF x K g, i, j, h⟩, rfl, fun _ _ => ⟨rfl, rfl⟩, rfl, fun _ _ => ⟨rfl, rfl⟩, rfl, rfl, fun _ _ => ⟨rfl, rfl, rfl, rfl, rfl, rfl, rfl, rfl, rfl, rfl⟩, rfl, rfl, rfl, hW, w1, w2, w3, by show i < x.k; omega, by show j < x.k; omega, by show (0 : Int) ≤ (h : Int); omega, by show (h : Int) ≤ 24; omega, fun hp => ⟨fun h04 => absurd h04 (by omega), fun _ => ⟨by omega, by omega, by omega, fun d hd => ?_, by omega⟩⟩, fun hp => next ?_⟩, fun jK => next ?_⟩⟩, fun l2 => next ?_⟩⟩, fun l1 => next ?_⟩⟩
                · exact stop h i j (by omega) (by omega) (by omega) (by rw [eP, l1, l2, hp, decide_eq_true (by omega : i = K)]; rfl) d hd
                · rw [eP, hp]; simp
                · exact stop h i j (by omega) (by omega) (by omega) (by rw [eP, l1, l2, hp, decide_eq_true (by omega : j = K)]; simp) d hd
                · rw [eP, hp]; simp
                · rw [eP, decide_eq_false (by omega : ¬ i = K), decide_eq_false (by omega : ¬ j = K)]; rfl
                · rw [eP, l2]; simp
                · rw [eP, l1]; simp
              · by_cases c : i' = i
                · subst c; exact hJ j' hij (by omega)
                · exact hI i' (by omega) j' hij hj'
            · by_cases c : h' = h
              · subst c; exact hI i' (by omega) j hij hj
              · exact hH h' (by omega) i' hi' j hij hj
          · have hcl : clrB x K g = true := by
              unfold clrB
              rw [firstP_none.2 fun h' hh' i hi j hj hij => hH h' (by omega) i hi j hij hj]; rfl
            have hs : shO x k.toNat (m.toNat + 1) = some g := by
              rw [← hK]
              unfold shO
              exact srch_some (i := g) (by omega) (by rw [hcl]; rfl) fun d hd => by rw [hG d hd]; rfl
            obtain ⟨a1, a2⟩ := sh_some hc hA hs
            exact ⟨a1.symm, a2.symm, fun h => by cases h⟩
      · have hs : shO x k.toNat (m.toNat + 1) = none := by
          rw [← hK]
          unfold shO
          exact srch_none.2 fun d hd => by rw [hG d (by omega)]; rfl
        obtain ⟨a1, a2⟩ := sh_none hc hA hs
        exact ⟨a1.symm, a2.symm⟩
end Go.Proofs.YtcfmdhlohahhcaaDoor
set_option linter.unusedSimpArgs false
set_option linter.unusedVariables false
namespace Go.Proofs.YtcfmdhlohahhcaaDoor
open Go Go.Sx Nm
set_option maxRecDepth 100000
theorem t_neg (l h n : Int) : tHi l h (-n) = -tLo l h n ∧ tLo l h (-n) = -tHi l h n := by
  unfold tHi tLo
  by_cases h1 : n < 0
  · rw [if_neg (by omega), if_pos h1, if_neg (by omega), if_pos h1, Int.mul_neg, Int.mul_neg]; exact ⟨rfl, rfl⟩
  · by_cases h2 : n = 0
    · subst h2; simp
    · rw [if_pos (by omega), if_neg h1, if_pos (by omega), if_neg h1, Int.mul_neg, Int.mul_neg]; exact ⟨rfl, rfl⟩
theorem nh_neg (A B : Int) (j : Nat) : nh B A j = -nh A B j := by unfold nh; omega
theorem r_neg (f : Nat → Nat → Int) (A B : Int) (n : Nat) : rHi f B A n = -rLo f A B n ∧ rLo f B A n = -rHi f A B n := by
  unfold rHi rLo
  rw [← sumN_neg, ← sumN_neg]
  exact ⟨sumN_congr fun j _ => by rw [nh_neg]; exact (t_neg _ _ _).1, sumN_congr fun j _ => by rw [nh_neg]; exact (t_neg _ _ _).2⟩
theorem ra_neg {r s : RAsk} (hf : s.f = r.f) (ha : s.a = r.b) (hb : s.b = r.a) (ho : s.off = -r.off) (h1 : s.l = r.l2 ∧ s.u = r.u2) (h2 : s.l2 = r.l ∧ s.u2 = r.u) (hh : s.h = r.h) : raLo s = -raHi r ∧ raHi s = -raLo r := by
  unfold raLo raHi
  rw [hf, ha, hb, ho, h1.1, h1.2, h2.1, h2.2, hh]
  obtain ⟨q1, q2⟩ := r_neg r.f (r.a 4) (r.b 4) r.h
  have e1 : ((r.h : Int) - r.b 4) = -(r.b 4 - r.h) := by omega
  have e2 : (r.a 4 - (r.h : Int)) = -(r.h - r.a 4) := by omega
  rw [q1, q2, e1, e2, (t_neg _ _ _).1, (t_neg _ _ _).2, (t_neg _ _ _).1, (t_neg _ _ _).2]
  constructor <;> omega
theorem near_sym (l u own other gap : Int) : nearB (-u) (-l) other own gap = nearB l u own other gap := by
  unfold nearB
  rw [Bool.and_comm]
  congr 1 <;> · apply decide_eq_decide.2; omega
theorem can_sym (y : Fleet) (i k h : Nat) : canB ⟨y, k, i, h⟩ = canB ⟨y, i, k, h⟩ := by
  have e : ∀ i k, canB ⟨y, i, k, h⟩ = (lyB y i h && lyB y k h && foulB (fRef y i k h)) := fun _ _ => rfl
  rw [e, e, Bool.and_comm (lyB y k h)]
  congr 1
  obtain ⟨a1, a2⟩ := ra_neg (r := rE y i k h) (s := rE y k i h) rfl rfl rfl (by show y.net k 0 - y.net i 0 = -(y.net i 0 - y.net k 0); omega) ⟨rfl, rfl⟩ ⟨rfl, rfl⟩ rfl
  obtain ⟨b1, b2⟩ := ra_neg (r := rN y i k h) (s := rN y k i h) rfl rfl rfl (by show y.net k 1 - y.net i 1 = -(y.net i 1 - y.net k 1); omega) ⟨rfl, rfl⟩ ⟨rfl, rfl⟩ rfl
  show (nearB (raLo (rE y k i h)) (raHi (rE y k i h)) (lg (y.net k) 0) (lg (y.net i) 0) y.gap && nearB (raLo (rN y k i h)) (raHi (rN y k i h)) (lg (y.net k) 1) (lg (y.net i) 1) y.gap) = (nearB (raLo (rE y i k h)) (raHi (rE y i k h)) (lg (y.net i) 0) (lg (y.net k) 0) y.gap && nearB (raLo (rN y i k h)) (raHi (rN y i k h)) (lg (y.net i) 1) (lg (y.net k) 1) y.gap)
  rw [a1, a2, b1, b2, near_sym, near_sym]
def clR (y : Fleet) (k : Nat) : Bool := allB (y.hE + 1) fun h => allB y.k fun i => !(decide (i ≠ k) && canB ⟨y, i, k, h⟩)
theorem clR_iff {y : Fleet} {k : Nat} : clR y k = true ↔ ∀ h, h < y.hE + 1 → ∀ i, i < y.k → i ≠ k → canB ⟨y, i, k, h⟩ = false := by
  unfold clR
  simp only [allB_iff, Bool.not_eq_true', Bool.and_eq_false_iff, decide_eq_false_iff_not]
  constructor
  · intro h a ha i hi hik
    rcases h a ha i hi with q | q
    · exact absurd hik q
    · exact q
  · intro h a ha i hi
    by_cases c : i ≠ k
    · exact .inr (h a ha i hi c)
    · exact .inl c
theorem clR_eq {x : Fleet} {K d : Nat} (hc : Nm.chk x = true) (hd : (d : Int) ≤ 5000) (hK : K < x.k) : clR (shF x K d) K = clrB x K d := by
  have hW := shF_chk (k := K) (d := (d : Int)) hc (by omega) hd
  have e1 : (shF x K d).hE = x.hE := rfl
  have e2 : (shF x K d).k = x.k := rfl
  rw [Bool.eq_iff_iff, clR_iff]
  have q : clrB x K d = true ↔ ∀ h, h < x.hE + 1 → ∀ i, i < x.k → ∀ j, j < x.k → i < j → pS x K d h i j = false := by
    unfold clrB
    rw [Option.isNone_iff_eq_none, firstP_none]
  rw [q]
  constructor
  · intro a h hh i hi j hj hij
    unfold pS
    rw [canH_eq hW (h := h) (i := i) (k := j) (by rw [e2]; exact hi) (by rw [e2]; exact hj)]
    by_cases c : i = K
    · subst c
      rw [← can_sym, a h hh j hj (by omega)]; simp
    · by_cases c2 : j = K
      · subst c2
        rw [a h hh i hi c]; simp
      · rw [decide_eq_false c, decide_eq_false c2]; rfl
  · intro a h hh i hi hik
    have hi : i < x.k := hi
    by_cases c : i < K
    · have := a h hh i hi K hK c
      unfold pS at this
      rw [canH_eq hW (h := h) (i := i) (k := K) (by rw [e2]; exact hi) (by rw [e2]; exact hK)] at this
      simpa using this
    · have := a h hh K hK i hi (by omega)
      unfold pS at this
      rw [canH_eq hW (h := h) (i := K) (k := i) (by rw [e2]; exact hK) (by rw [e2]; exact hi)] at this
      rw [← can_sym]
      simpa using this
end Go.Proofs.YtcfmdhlohahhcaaDoor
set_option linter.unusedSimpArgs false
set_option linter.unusedVariables false
namespace Go.Proofs.YtcfmdhlohahhcaaDoor
open Go Go.Sx Nm
set_option maxRecDepth 100000
theorem t_mono {l u l' u' : Int} (n : Int) (h1 : l ≤ l') (h2 : u' ≤ u) : tLo l u n ≤ tLo l' u' n ∧ tHi l' u' n ≤ tHi l u n := by
  unfold tLo tHi
  by_cases h : n < 0
  · simp only [if_pos h]
    exact ⟨Int.mul_le_mul_of_nonpos_right h2 (by omega), Int.mul_le_mul_of_nonpos_right h1 (by omega)⟩
  · simp only [if_neg h]
    exact ⟨Int.mul_le_mul_of_nonneg_right h1 (by omega), Int.mul_le_mul_of_nonneg_right h2 (by omega)⟩
theorem sumN_le {g g' : Nat → Int} : ∀ {n : Nat}, (∀ j, j < n → g j ≤ g' j) → sumN g n ≤ sumN g' n
  | 0, _ => Int.le_refl _
  | n + 1, h => by
    have := sumN_le (n := n) fun j hj => h j (by omega)
    have := h n (by omega)
    unfold sumN
    omega
structure Nar (y : Fleet) (i k : Nat) (x : Fleet) (i' k' h : Nat) : Prop where
  e : ∀ j, j < h → x.e j 0 ≤ y.e j 0 ∧ y.e j 1 ≤ x.e j 1
  n : ∀ j, j < h → x.n j 0 ≤ y.n j 0 ∧ y.n j 1 ≤ x.n j 1
  gap : y.gap ≤ x.gap
  i : (∀ j, j < 6 → y.net i j = x.net i' j) ∧ (x.net i' 6 ≤ y.net i 6 ∧ y.net i 7 ≤ x.net i' 7) ∧ x.net i' 8 ≤ y.net i 8 ∧ y.net i 9 ≤ x.net i' 9
  k : (∀ j, j < 6 → y.net k j = x.net k' j) ∧ (x.net k' 6 ≤ y.net k 6 ∧ y.net k 7 ≤ x.net k' 7) ∧ x.net k' 8 ≤ y.net k 8 ∧ y.net k 9 ≤ x.net k' 9
theorem ra_mono {r s : RAsk} (hf : ∀ j, j < r.h → r.f j 0 ≤ s.f j 0 ∧ s.f j 1 ≤ r.f j 1) (ho : s.off = r.off) (ha : s.a 4 = r.a 4) (hb : s.b 4 = r.b 4) (hh : s.h = r.h) (h1 : r.l ≤ s.l ∧ s.u ≤ r.u) (h2 : r.l2 ≤ s.l2 ∧ s.u2 ≤ r.u2) : raLo r ≤ raLo s ∧ raHi s ≤ raHi r := by
  unfold raLo raHi
  rw [ho, ha, hb, hh]
  have a := t_mono (r.h - r.a 4) h1.1 h1.2
  have b := t_mono (r.b 4 - r.h) h2.1 h2.2
  have c : rLo r.f (r.a 4) (r.b 4) r.h ≤ rLo s.f (r.a 4) (r.b 4) r.h := sumN_le fun j hj => (t_mono _ (hf j hj).1 (hf j hj).2).1
  have d : rHi s.f (r.a 4) (r.b 4) r.h ≤ rHi r.f (r.a 4) (r.b 4) r.h := sumN_le fun j hj => (t_mono _ (hf j hj).1 (hf j hj).2).2
  omega
theorem nar_e {y x : Fleet} {i k i' k' h : Nat} (N : Nar y i k x i' k' h) : raLo (rE x i' k' h) ≤ raLo (rE y i k h) ∧ raHi (rE y i k h) ≤ raHi (rE x i' k' h) :=
  ra_mono N.e (by show y.net i 0 - y.net k 0 = x.net i' 0 - x.net k' 0; rw [N.i.1 0 (by omega), N.k.1 0 (by omega)]) (N.i.1 4 (by omega)) (N.k.1 4 (by omega)) rfl N.i.2.1 N.k.2.1
theorem nar_n {y x : Fleet} {i k i' k' h : Nat} (N : Nar y i k x i' k' h) : raLo (rN x i' k' h) ≤ raLo (rN y i k h) ∧ raHi (rN y i k h) ≤ raHi (rN x i' k' h) :=
  ra_mono N.n (by show y.net i 1 - y.net k 1 = x.net i' 1 - x.net k' 1; rw [N.i.1 1 (by omega), N.k.1 1 (by omega)]) (N.i.1 4 (by omega)) (N.k.1 4 (by omega)) rfl N.i.2.2 N.k.2.2
theorem near_mono {lo hi lo' hi' own other gap gap' : Int} (h1 : lo' ≤ lo) (h2 : hi ≤ hi') (h3 : gap ≤ gap') (h : nearB lo hi own other gap = true) : nearB lo' hi' own other gap' = true := by
  unfold nearB at h ⊢
  simp only [Bool.and_eq_true, decide_eq_true_eq] at h ⊢
  omega
theorem ly_iff {x : Fleet} {i h : Nat} : lyB x i h = true ↔ i < x.k ∧ x.net i 4 ≤ h ∧ (h : Int) ≤ x.net i 5 := by
  unfold lyB
  rw [Bool.and_eq_true, Nm.within_iff, Nm.within_iff]
  have : ((i : Int)).toNat = i := rfl
  rw [this]
  omega
theorem nar_can {y x : Fleet} {i k i' k' h : Nat} (N : Nar y i k x i' k' h) (hi : i' < x.k) (hk : k' < x.k) (hT : canB ⟨y, i, k, h⟩ = true) : canB ⟨x, i', k', h⟩ = true := by
  have e : ∀ (x : Fleet) (i k : Nat), canB ⟨x, i, k, h⟩ = (lyB x i h && lyB x k h && foulB (fRef x i k h)) := fun _ _ _ => rfl
  have lgs : ∀ s : Int, lg (y.net i) s = lg (x.net i') s ∧ lg (y.net k) s = lg (x.net k') s := fun s => by
    unfold lg
    rw [N.i.1 3 (by omega), N.i.1 2 (by omega), N.k.1 3 (by omega), N.k.1 2 (by omega)]
    exact ⟨rfl, rfl⟩
  rw [e, Bool.and_eq_true, Bool.and_eq_true] at hT ⊢
  obtain ⟨⟨l1, l2⟩, f⟩ := hT
  rw [ly_iff] at l1 l2
  refine ⟨⟨ly_iff.2 ⟨hi, by rw [← N.i.1 4 (by omega)]; exact l1.2.1, by rw [← N.i.1 5 (by omega)]; exact l1.2.2⟩, ly_iff.2 ⟨hk, by rw [← N.k.1 4 (by omega)]; exact l2.2.1, by rw [← N.k.1 5 (by omega)]; exact l2.2.2⟩⟩, ?_⟩
  have f' : (nearB (raLo (rE y i k h)) (raHi (rE y i k h)) (lg (y.net i) 0) (lg (y.net k) 0) y.gap && nearB (raLo (rN y i k h)) (raHi (rN y i k h)) (lg (y.net i) 1) (lg (y.net k) 1) y.gap) = true := f
  show (nearB (raLo (rE x i' k' h)) (raHi (rE x i' k' h)) (lg (x.net i') 0) (lg (x.net k') 0) x.gap && nearB (raLo (rN x i' k' h)) (raHi (rN x i' k' h)) (lg (x.net i') 1) (lg (x.net k') 1) x.gap) = true
  rw [Bool.and_eq_true] at f' ⊢
  rw [(lgs 0).1, (lgs 0).2, (lgs 1).1, (lgs 1).2] at f'
  exact ⟨near_mono (nar_e N).1 (nar_e N).2 N.gap f'.1, near_mono (nar_n N).1 (nar_n N).2 N.gap f'.2⟩
theorem trOk_in {x : Fleet} {t : Truth} (ht : trOk x t = true) : (∀ j, j < x.hE → (x.e j 0 ≤ t.e j ∧ t.e j ≤ x.e j 1) ∧ x.n j 0 ≤ t.n j ∧ t.n j ≤ x.n j 1) ∧ ∀ i, i < x.k → (x.net i 6 ≤ t.se i ∧ t.se i ≤ x.net i 7) ∧ x.net i 8 ≤ t.sn i ∧ t.sn i ≤ x.net i 9 := by
  unfold trOk at ht
  simp only [Bool.and_eq_true] at ht
  obtain ⟨⟨h0, h2⟩, h1, h3⟩ := ht
  have g : ∀ c, tells x t c = true → ∀ j, j < tm x c → tl x c j ≤ tv t c j ∧ tv t c j ≤ th x c j := fun c h j hj => by
    unfold tells tellB at h
    rw [Bool.and_eq_true] at h
    have h := h.2
    unfold tellI at h
    exact Nm.within_iff.1 (allB_iff.1 h j hj)
  exact ⟨fun j hj => ⟨g 0 h0 j hj, g 1 h1 j hj⟩, fun i hi => ⟨g 2 h2 i hi, g 3 h3 i hi⟩⟩
theorem tr_nar {x : Fleet} {t : Truth} {i k h : Nat} (ht : trOk x t = true) (hi : i < x.k) (hk : k < x.k) (hh : h ≤ x.hE) : Nar (trF x t) i k x i k h := by
  obtain ⟨h1, h2⟩ := trOk_in ht
  refine ⟨fun j hj => (h1 j (by omega)).1, fun j hj => (h1 j (by omega)).2, Int.le_refl _, ⟨fun j hj => trF_net hj, ?_, ?_⟩, ⟨fun j hj => trF_net hj, ?_, ?_⟩⟩
  · exact (h2 i hi).1
  · exact (h2 i hi).2
  · exact (h2 k hk).1
  · exact (h2 k hk).2
end Go.Proofs.YtcfmdhlohahhcaaDoor
set_option linter.unusedSimpArgs false
set_option linter.unusedVariables false
namespace Go.Proofs.YtcfmdhlohahhcaaDoor
open Go Go.Sx Nm
set_option maxRecDepth 100000
def sClear : Sig := ⟨Fleet × Nat, fun a => [fleetTV a.1, intC a.2], fun a => ChkW a.1 ∧ a.1.wf ∧ a.2 < a.1.k, fun a => [.v (.c (.bool (clR a.1 a.2)))]⟩
def aAD1 (y : Fleet) (k : Nat) : Ann := { G := Nat, ok := fun _ g => g ≤ y.hE + 1 ∧ ∀ h, h < g → ∀ i, i < y.k → i ≠ k → canB ⟨y, i, k, h⟩ = false, dom := fun _ => [], tm := fun _ g => [(5, .t (intC g))], hp := fun _ _ => [], mu := fun _ g => y.hE + 1 - g }
def aAD2 (y : Fleet) (k : Nat) : Ann := { G := Nat × Nat, ok := fun st g => isI (st.tm 5) g.2 ∧ g.1 ≤ y.k ∧ ∀ i, i < g.1 → i ≠ k → canB ⟨y, i, k, g.2⟩ = false, dom := fun _ => [], tm := fun _ g => [(6, .t (intC g.1))], hp := fun _ _ => [], mu := fun _ g => y.k - g.1 }
theorem q72 (a : sClear.α) (ha : sClear.pre a) : CallQ Tryd.prog E0 72 (sClear.arg a) (sClear.res a) := by
  obtain ⟨y, k⟩ := a
  refine bare_say E0_ok TAB TAB_ok [] EvensOk.nil runs { l := [(72, 2, aAD1 y k), (72, 5, aAD2 y k)] } (fuel := 8) ?_
  refine of_red (q := (∃ (g : Nat), (g ≤ y.hE + (1 : Nat) ∧ ∀ (h : Nat), h < g → ∀ (i : Nat), i < y.k → i ≠ k → canB { x := y, i := i, k := k, h := h } = false) ∧ True ∧ ((True ∧ (0 : Int) = (↑g : Int)) ∧ True) ∧ True) ∧ ∀ (g : Nat), (g ≤ y.hE + (1 : Nat) ∧ ∀ (h : Nat), h < g → ∀ (i : Nat), i < y.k → i ≠ k → canB { x := y, i := i, k := k, h := h } = false) → (decide ((↑g : Int) ≤ (↑y.hE : Int)) = true → (∃ (g_1 : Nat × Nat), ((↑g : Int) = (↑g_1.snd : Int) ∧ g_1.fst ≤ y.k ∧ ∀ (i : Nat), i < g_1.fst → i ≠ k → canB { x := y, i := i, k := k, h := g_1.snd } = false) ∧ True ∧ ((True ∧ (0 : Int) = (↑g_1.fst : Int)) ∧ True) ∧ True) ∧ ∀ (g_1 : Nat × Nat), ((↑g : Int) = (↑g_1.snd : Int) ∧ g_1.fst ≤ y.k ∧ ∀ (i : Nat), i < g_1.fst → i ≠ k → canB { x := y, i := i, k := k, h := g_1.snd } = false) → (decide ((↑g_1.fst : Int) < (↑y.k : Int)) = true → (((↑g_1.fst : Int) != (↑k : Int)) = true → ∃ (x : BAsk), ((True ∧ flq y x.x) ∧ (True ∧ (↑g_1.fst : Int) = (↑x.i : Int)) ∧ (True ∧ (↑k : Int) = (↑x.k : Int)) ∧ (True ∧ (↑g : Int) = (↑x.h : Int)) ∧ True) ∧ (ChkW x.x ∧ (x.x.hE < (4611686018427387904 : Nat) ∧ x.x.hN < (4611686018427387904 : Nat) ∧ x.x.k < (4611686018427387904 : Nat)) ∧ x.i < x.x.k ∧ x.k < x.x.k ∧ x.h ≤ x.x.hE) ∧ (canB x = true → True ∧ clR y k = false) ∧ (canB x = false → inRange IntKind.i64 ((↑g_1.fst : Int) + (1 : Int)) ∧ ∃ (g' : Nat × Nat), ((↑g : Int) = (↑g'.snd : Int) ∧ g'.fst ≤ y.k ∧ ∀ (i : Nat), i < g'.fst → i ≠ k → canB { x := y, i := i, k := k, h := g'.snd } = false) ∧ y.k - g'.fst < y.k - g_1.fst ∧ True ∧ ((True ∧ (↑g_1.fst : Int) + (1 : Int) = (↑g'.fst : Int)) ∧ True) ∧ True)) ∧ (((↑g_1.fst : Int) != (↑k : Int)) = false → inRange IntKind.i64 ((↑g_1.fst : Int) + (1 : Int)) ∧ ∃ (g' : Nat × Nat), ((↑g : Int) = (↑g'.snd : Int) ∧ g'.fst ≤ y.k ∧ ∀ (i : Nat), i < g'.fst → i ≠ k → canB { x := y, i := i, k := k, h := g'.snd } = false) ∧ y.k - g'.fst < y.k - g_1.fst ∧ True ∧ ((True ∧ (↑g_1.fst : Int) + (1 : Int) = (↑g'.fst : Int)) ∧ True) ∧ True)) ∧ (decide ((↑g_1.fst : Int) < (↑y.k : Int)) = false → inRange IntKind.i64 ((↑g : Int) + (1 : Int)) ∧ ∃ (g' : Nat), (g' ≤ y.hE + (1 : Nat) ∧ ∀ (h : Nat), h < g' → ∀ (i : Nat), i < y.k → i ≠ k → canB { x := y, i := i, k := k, h := h } = false) ∧ y.hE + (1 : Nat) - g' < y.hE + (1 : Nat) - g ∧ True ∧ ((True ∧ (↑g : Int) + (1 : Int) = (↑g' : Int)) ∧ True) ∧ True)) ∧ (decide ((↑g : Int) ≤ (↑y.hE : Int)) = false → True ∧ clR y k = true)) (by kernel_rfl) ?_
  simp only [flq, true_and, and_true, inR, Prod.exists, Prod.forall, and_assoc, exists_and_left, exists_eq_left', exists_eq_left, forall_eq, exists_const, forall_const, loopN, loopM, fa2, fas, fas2, dup1, dup2, dup3, dup4, ite_true, exhs, exhn, exhz, exho, exs1, exn1, exz1, exo1, exs2, exn2, exz2, exo2, exs3, exn3, exz3, exo3, exs4, exn4, exz4, exo4, exs5, exn5, exz5, exo5, exs6, exn6, exz6, exo6, exs7, exn7, exz7, exo7, exs8, exn8, exz8, exo8, exs9, exn9, exz9, exo9, ex1, ex2, ex3, ex4, ex5, beqI, bneI, decide_true, Bool.true_and, decide_eq_true_eq, decide_eq_false_iff_not, ne_eq, Decidable.not_not]
  obtain ⟨hW, ⟨w1, w2, w3⟩, hk⟩ := (show ChkW y ∧ y.wf ∧ k < y.k from ha)
  obtain ⟨s1, s2, s3, s4, s5, s6, s7⟩ := hW.size
  refine ⟨by omega, fun h hh => absurd hh (Nat.not_lt_zero h), fun g ⟨hg, hG⟩ => ⟨fun hlt => ⟨by omega, fun i hi => absurd hi (Nat.not_lt_zero i), fun a b ⟨hb, ha, hA⟩ => ?_⟩, fun hge => ?_⟩⟩
  · obtain rfl : g = b := by omega
    have nx : (a ≠ k → canB ⟨y, a, k, g⟩ = false) → ∀ i, i < a + 1 → ¬i = k → canB ⟨y, i, k, g⟩ = false := fun q i hi hik => by
      by_cases c : i = a
      · subst c; exact q hik
      · exact hA i (by omega) hik
    refine ⟨fun hlt2 => ⟨fun hak => ⟨⟨y, a, k, g⟩, rfl, fun _ _ => ⟨rfl, rfl⟩, rfl, fun _ _ => ⟨rfl, rfl⟩, rfl, rfl, fun _ _ => ⟨rfl, rfl, rfl, rfl, rfl, rfl, rfl, rfl, rfl, rfl⟩, rfl, rfl, rfl, hW, w1, w2, w3, by show a < y.k; omega, hk, by show g ≤ y.hE; omega, fun hT => ?_, fun hF => ⟨by omega, by omega, by omega, nx fun _ => hF, by omega⟩⟩, fun hak => ⟨by omega, by omega, by omega, nx fun h => absurd (by omega) h, by omega⟩⟩, fun hge2 => ⟨by omega, by omega, by omega, fun h hh i hi hik => ?_, by omega⟩⟩
    · cases hs : clR y k with
      | false => rfl
      | true =>
        have := clR_iff.1 hs g (by omega) a (by omega) (by omega)
        rw [hT] at this; cases this
    · by_cases c : h = g
      · subst c; exact hA i (by omega) hik
      · exact hG h (by omega) i hi hik
  · exact clR_iff.2 fun h hh i hi hik => hG h (by omega) i hi hik
def TAD : List (Nat × Sig) := (72, sClear) :: (26, sShift) :: (20, sFouls) :: (16, sLies) :: TAB
theorem TAD_ok : SigsOk Tryd.prog E0 TAD := (((TAB_ok.cons (runs 16 (by kernel_rfl)) q16).cons (runs 20 (by kernel_rfl)) q20).cons (runs 26 (by kernel_rfl)) q26).cons (runs 72 (by kernel_rfl)) q72
def aAD3 (x : Fleet) (K n : Nat) : Ann := { G := Nat, ok := fun _ g => g ≤ n ∧ ∀ d, d < g → clrB x K d = false, dom := fun _ => [], tm := fun _ g => [(9, .t (intC g))], hp := fun _ _ => [], mu := fun _ g => n - g }
theorem q27 (a : sShift.α) (ha : sShift.pre a) : CallQ Tryd.prog E0 27 (sShift.arg a) (sShift.res a) := by
  obtain ⟨x, k, m⟩ := a
  refine bare_say E0_ok TAD TAD_ok [] EvensOk.nil runs { live := true, l := [(27, 7, aAD3 x k.toNat (m.toNat + 1))] } (fuel := 8) ?_
  refine of_red (q := ∃ (x_1 : Fleet), ((True ∧ flq x x_1) ∧ True) ∧ (x_1.hE < (4611686018427387904 : Nat) ∧ x_1.hN < (4611686018427387904 : Nat) ∧ x_1.k < (4611686018427387904 : Nat)) ∧ ((chkE x_1 != (0 : Int)) = true → (True ∧ (0 : Int) = shV x (k, m).fst (k, m).snd) ∧ (True ∧ chkE x_1 = shE x (k, m).fst (k, m).snd) ∧ True) ∧ ((chkE x_1 != (0 : Int)) = false → inRange IntKind.i64 ((↑x.k : Int) - (1 : Int)) ∧ ∃ (x_2 : Int × Int × Int), ((True ∧ k = x_2.fst) ∧ (True ∧ (0 : Int) = x_2.snd.fst) ∧ (True ∧ (↑x.k : Int) - (1 : Int) = x_2.snd.snd) ∧ True) ∧ True ∧ ((!within x_2.fst x_2.snd.fst x_2.snd.snd) = true → (True ∧ (0 : Int) = shV x (k, m).fst (k, m).snd) ∧ (True ∧ (22 : Int) = shE x (k, m).fst (k, m).snd) ∧ True) ∧ ((!within x_2.fst x_2.snd.fst x_2.snd.snd) = false → ∃ (x_3 : Int × Int × Int), ((True ∧ m = x_3.fst) ∧ (True ∧ (0 : Int) = x_3.snd.fst) ∧ (True ∧ (5000 : Int) = x_3.snd.snd) ∧ True) ∧ True ∧ ((!within x_3.fst x_3.snd.fst x_3.snd.snd) = true → (True ∧ (0 : Int) = shV x (k, m).fst (k, m).snd) ∧ (True ∧ (22 : Int) = shE x (k, m).fst (k, m).snd) ∧ True) ∧ ((!within x_3.fst x_3.snd.fst x_3.snd.snd) = false → (∃ (g : Nat), (g ≤ m.toNat + (1 : Nat) ∧ ∀ (d : Nat), d < g → clrB x k.toNat d = false) ∧ True ∧ ((True ∧ (0 : Int) = (↑g : Int)) ∧ True) ∧ True) ∧ ∀ (g : Nat), (g ≤ m.toNat + (1 : Nat) ∧ ∀ (d : Nat), d < g → clrB x k.toNat d = false) → (decide ((↑g : Int) ≤ m) = true → ((0 : Nat) + x.k) * (80 : Nat) ≤ (140737488355328 : Nat) ∧ (0 : Nat) + x.k < (4611686018427387904 : Nat) ∧ (0 : Int) ≤ k ∧ k < (↑x.k : Int) ∧ inRange IntKind.i64 (x.net k.toNat (0 : Nat) + (↑g : Int)) ∧ (0 : Int) ≤ k ∧ k < (↑((0 : Nat) + x.k) : Int) ∧ ∃ (x_4 : Fleet × Nat), ((True ∧ (((True ∧ True ∧ True ∧ x.hE = x_4.fst.hE ∧ ∀ (i : Nat), i < x.hE → (True ∧ x.e i 0 = x_4.fst.e i 0) ∧ x.e i 1 = x_4.fst.e i 1) ∧ True ∧ True ∧ x.hN = x_4.fst.hN ∧ ∀ (i : Nat), i < x.hN → (True ∧ x.n i 0 = x_4.fst.n i 0) ∧ x.n i 1 = x_4.fst.n i 1) ∧ True ∧ x.gap = x_4.fst.gap) ∧ True ∧ True ∧ (0 : Nat) + x.k = x_4.fst.k ∧ ∀ (i : Nat), i < (0 : Nat) + x.k → (((((((((True ∧ (if i = k.toNat then x.net k.toNat (0 : Nat) + (↑g : Int) else x.net (i - (0 : Nat)) 0) = x_4.fst.net i 0) ∧ (if i = k.toNat then x.net k.toNat 1 else x.net (i - (0 : Nat)) 1) = x_4.fst.net i 1) ∧ (if i = k.toNat then x.net k.toNat 2 else x.net (i - (0 : Nat)) 2) = x_4.fst.net i 2) ∧ (if i = k.toNat then x.net k.toNat 3 else x.net (i - (0 : Nat)) 3) = x_4.fst.net i 3) ∧ (if i = k.toNat then x.net k.toNat 4 else x.net (i - (0 : Nat)) 4) = x_4.fst.net i 4) ∧ (if i = k.toNat then x.net k.toNat 5 else x.net (i - (0 : Nat)) 5) = x_4.fst.net i 5) ∧ (if i = k.toNat then x.net k.toNat 6 else x.net (i - (0 : Nat)) 6) = x_4.fst.net i 6) ∧ (if i = k.toNat then x.net k.toNat 7 else x.net (i - (0 : Nat)) 7) = x_4.fst.net i 7) ∧ (if i = k.toNat then x.net k.toNat 8 else x.net (i - (0 : Nat)) 8) = x_4.fst.net i 8) ∧ (if i = k.toNat then x.net k.toNat 9 else x.net (i - (0 : Nat)) 9) = x_4.fst.net i 9) ∧ (True ∧ k = (↑x_4.snd : Int)) ∧ True) ∧ (ChkW x_4.fst ∧ (x_4.fst.hE < (4611686018427387904 : Nat) ∧ x_4.fst.hN < (4611686018427387904 : Nat) ∧ x_4.fst.k < (4611686018427387904 : Nat)) ∧ x_4.snd < x_4.fst.k) ∧ (clR x_4.fst x_4.snd = true → (True ∧ (↑g : Int) = shV x (k, m).fst (k, m).snd) ∧ (True ∧ (0 : Int) = shE x (k, m).fst (k, m).snd) ∧ True) ∧ (clR x_4.fst x_4.snd = false → inRange IntKind.i64 ((↑g : Int) + (1 : Int)) ∧ ∃ (g' : Nat), (g' ≤ m.toNat + (1 : Nat) ∧ ∀ (d : Nat), d < g' → clrB x k.toNat d = false) ∧ m.toNat + (1 : Nat) - g' < m.toNat + (1 : Nat) - g ∧ True ∧ ((True ∧ (↑g : Int) + (1 : Int) = (↑g' : Int)) ∧ True) ∧ True)) ∧ (decide ((↑g : Int) ≤ m) = false → (True ∧ (0 : Int) = shV x (k, m).fst (k, m).snd) ∧ (True ∧ (4 : Int) = shE x (k, m).fst (k, m).snd) ∧ True))))) (by kernel_rfl) ?_
  simp only [flq, true_and, and_true, inR, Prod.exists, Prod.forall, and_assoc, exists_and_left, exists_eq_left', exists_eq_left, forall_eq, exists_const, forall_const, loopN, loopM, fa2, fas, fas2, dup1, dup2, dup3, dup4, ite_true, exhs, exhn, exhz, exho, exs1, exn1, exz1, exo1, exs2, exn2, exz2, exo2, exs3, exn3, exz3, exo3, exs4, exn4, exz4, exo4, exs5, exn5, exz5, exo5, exs6, exn6, exz6, exo6, exs7, exn7, exz7, exo7, exs8, exn8, exz8, exo8, exs9, exn9, exz9, exo9, ex1, ex2, ex3, ex4, ex5, beqI, bneI, decide_true, Bool.true_and, decide_eq_true_eq, decide_eq_false_iff_not, ne_eq, Decidable.not_not]
  simp only [Nat.zero_add, Nat.sub_zero]
  obtain ⟨w1, w2, w3⟩ := (show x.wf from ha)
  refine exF ⟨w1, w2, w3, fun e => ?_, fun e => ?_⟩
  · obtain ⟨hc, e20⟩ := not_chk e
    obtain ⟨a1, a2⟩ := sh_20 (k := k) (most := m) hc
    exact ⟨a1.symm, by rw [a2, e20]⟩
  · have hc := chk_of e
    obtain ⟨s1, s2, s3, s4, s5, s6, s7⟩ := chk_size hc
    have f22 : shA x k m = false → 0 = shV x k m ∧ 22 = shE x k m := fun hf => by
      obtain ⟨a1, a2⟩ := sh_22 hc hf
      exact ⟨a1.symm, a2.symm⟩
    refine ⟨by omega, by omega, fun h1 => f22 ?_, fun h1 => ⟨fun h2 => f22 ?_, fun h2 => ?_⟩⟩
    · rw [Bool.not_eq_true'] at h1
      unfold shA; rw [h1]; rfl
    · rw [Bool.not_eq_true'] at h2
      unfold shA; rw [h2]; simp
    · rw [Bool.not_eq_false'] at h1 h2
      have g1 := Nm.within_iff.1 h1
      have g2 := Nm.within_iff.1 h2
      have hA : shA x k m = true := by unfold shA; rw [h1, h2]; rfl
      obtain ⟨K, hK⟩ : ∃ K, K = k.toNat := ⟨_, rfl⟩
      have hK' : k = (K : Int) := by omega
      have hKk : K < x.k := by omega
      rw [← hK]
      obtain ⟨⟨k1, k2⟩, _⟩ := chk_net hc hKk
      refine ⟨by omega, fun d hd => absurd hd (Nat.not_lt_zero d), fun g ⟨hg, hG⟩ => ⟨fun hlt => ?_, fun hge => ?_⟩⟩
      · have hW := shF_chk (k := K) (d := (g : Int)) hc (by omega) (by omega)
        have eq := clR_eq (K := K) (d := g) hc (by omega) hKk
        refine ⟨by omega, by omega, by omega, by omega, by omega, by omega, by omega, by omega, shF x K g, rfl, fun _ _ => ⟨rfl, rfl⟩, rfl, fun _ _ => ⟨rfl, rfl⟩, rfl, rfl, fun i hi => ?_, K, hK', hW, w1, w2, w3, hKk, fun hT => ?_, fun hF => ⟨by omega, by omega, by omega, fun d hd => ?_, by omega⟩⟩
        · by_cases c : i = K
          · subst c
            have q0 : (shF x i g).net i 0 = x.net i 0 + g := shF_at
            have q : ∀ j, 0 < j → (shF x i g).net i j = x.net i j := fun j hj => by
              show (if i = i ∧ j = 0 then x.net i 0 + (g : Int) else x.net i j) = _
              rw [if_neg (by omega)]
            rw [q0, q 1 (by omega), q 2 (by omega), q 3 (by omega), q 4 (by omega), q 5 (by omega), q 6 (by omega), q 7 (by omega), q 8 (by omega), q 9 (by omega)]
            simp only [if_true, and_self]
          · have q : ∀ j, (shF x K g).net i j = x.net i j := fun j => by
              show (if i = K ∧ j = 0 then x.net i 0 + (g : Int) else x.net i j) = _
              rw [if_neg (fun h => c h.1)]
            rw [q 0, q 1, q 2, q 3, q 4, q 5, q 6, q 7, q 8, q 9]
            simp only [c, if_false, and_self]
        · have hs : shO x k.toNat (m.toNat + 1) = some g := by
            rw [← hK]
            unfold shO
            exact srch_some (i := g) (by omega) (by rw [← eq, hT]; rfl) fun d hd => by rw [hG d hd]; rfl
          obtain ⟨a1, a2⟩ := sh_some hc hA hs
          exact ⟨a1.symm, a2.symm⟩
        · by_cases c : d = g
          · subst c; rw [← eq]; exact hF
          · exact hG d (by omega)
      · have hs : shO x k.toNat (m.toNat + 1) = none := by
          rw [← hK]
          unfold shO
          exact srch_none.2 fun d hd => by rw [hG d (by omega)]; rfl
        obtain ⟨a1, a2⟩ := sh_none hc hA hs
        exact ⟨a1.symm, a2.symm⟩
end Go.Proofs.YtcfmdhlohahhcaaDoor
