/- The law ContractLent as a contract. -/
import Derived.Test.YthofpbnbjkdpaaaDoorCxP6
import Derived.Test.YthofpbnbjkdpaaaDoorCxMath5
set_option linter.unusedSimpArgs false
set_option linter.unusedVariables false
namespace Go.Proofs.YthofpbnbjkdpaaaDoor
open Go Go.Sx Cm
set_option maxRecDepth 100000

/-- The row that a box's cell leads to. -/
def rowN (b : Option Blk) (j : Nat) : Nat := match b with
  | some (.box _ g) => (match g j with | .os n _ _ => n | _ => 0)
  | _ => 0
def lentF (b : Book) (p j : Nat) : Int := if j < p then b.cash j + ln b j b.ns else b.cash j
theorem lentF_at {b : Book} {p : Nat} : lentF b p p = b.cash p := if_neg (Nat.lt_irrefl _)
def lentB (b : Book) : Book := { b with cash := fun j => lentF b b.nc j }
def lessB (b : Book) (k : Nat) : Book := { b with cash := fun j => if j = k then lentF b b.nc k - 1 else lentF b b.nc j }
theorem ln_le {b : Book} (g : Good b) {p : Nat} (hp : p < b.nc) : ∀ {k : Nat}, k ≤ b.ns → ln b p k ≤ 120000
  | 0, _ => by simp [ln]
  | k + 1, hk => by
    have ih := ln_le g hp (k := k) (by omega)
    have h1 := has_bd g (s := k) (by omega) hp
    have h2 := gets_bd g (pays_due g) p b.nd (Nat.le_refl _)
    have h3 := owes_bd g (pays_due g) p b.nd (Nat.le_refl _)
    simp only [ln]; omega
def aLe1 (b : Book) : Ann := { G := Nat, ok := fun _ p => p ≤ b.nc ∧ ∀ q, q < p → b.cash q + ln b q b.ns ≤ 10000, dom := fun st => [rowN (st.hp (osN (st.tm 10))) 0], tm := fun _ p => [(11, .t (intC p))], hp := fun st p => [(rowN (st.hp (osN (st.tm 10))) 0, .self, some (.row 3 1 b.nc (fun j _ => .int .i64 (lentF b p j))))], mu := fun _ p => b.nc - p }
def sLaw11 : Sig := ⟨Book × Int, fun x => [bookTV x.1, intC x.2], fun x => x.1.wf, fun _ => [.v (.c (.bool true))]⟩
theorem q11 (x : sLaw11.α) (h : sLaw11.pre x) : CallQ Tryd.prog E0 11 (sLaw11.arg x) (sLaw11.res x) := by
  obtain ⟨b, s⟩ := x
  refine bare_with E0_ok ((37, sSum) :: TN) (TN_ok.cons (runs 37 (by kernel_rfl)) q37) runs [(11, 10, aLe1 b)] [] (fuel := 6) ?_
  refine of_red (q := ∃ (x : Book), ((True ∧ ((True ∧ True ∧ True ∧ b.nc = x.nc ∧ ∀ (i : Nat), i < b.nc → True ∧ b.cash i = x.cash i) ∧ True ∧ True ∧ b.nd = x.nd ∧ ∀ (i : Nat), i < b.nd → ((True ∧ b.frm i = x.frm i) ∧ b.to i = x.to i) ∧ b.due i = x.due i) ∧ True ∧ True ∧ b.ns = x.ns ∧ ∀ (i : Nat), i < b.ns → (True ∧ b.price i = x.price i) ∧ True ∧ b.nb i = x.nb i ∧ ∀ (i_1 : Nat), i_1 < b.nb i → True ∧ b.bar i i_1 = x.bar i i_1) ∧ True) ∧ x.wf ∧ ∃ (x_1 : Book), ((True ∧ ((True ∧ True ∧ True ∧ b.nc = x_1.nc ∧ ∀ (i : Nat), i < b.nc → True ∧ b.cash i = x_1.cash i) ∧ True ∧ True ∧ b.nd = x_1.nd ∧ ∀ (i : Nat), i < b.nd → ((True ∧ b.frm i = x_1.frm i) ∧ b.to i = x_1.to i) ∧ b.due i = x_1.due i) ∧ True ∧ True ∧ b.ns = x_1.ns ∧ ∀ (i : Nat), i < b.ns → (True ∧ b.price i = x_1.price i) ∧ True ∧ b.nb i = x_1.nb i ∧ ∀ (i_1 : Nat), i_1 < b.nb i → True ∧ b.bar i i_1 = x_1.bar i i_1) ∧ True) ∧ x_1.wf ∧ ((!Cm.chk x_1) = true → ((errOf x != (0 : Int)) = true → (((↑(opn x (0 : Int)).nc : Int) == (0 : Int)) = true → ∃ (x : Unit), True ∧ True ∧ True ∧ true = true) ∧ (((↑(opn x (0 : Int)).nc : Int) == (0 : Int)) = false → True ∧ true = false)) ∧ ((errOf x != (0 : Int)) = false → True ∧ true = false)) ∧ ((!Cm.chk x_1) = false → ∃ (x_2 : Book), ((True ∧ ((True ∧ True ∧ True ∧ b.nc = x_2.nc ∧ ∀ (i : Nat), i < b.nc → True ∧ b.cash i = x_2.cash i) ∧ True ∧ True ∧ b.nd = x_2.nd ∧ ∀ (i : Nat), i < b.nd → ((True ∧ b.frm i = x_2.frm i) ∧ b.to i = x_2.to i) ∧ b.due i = x_2.due i) ∧ True ∧ True ∧ b.ns = x_2.ns ∧ ∀ (i : Nat), i < b.ns → (True ∧ b.price i = x_2.price i) ∧ True ∧ b.nb i = x_2.nb i ∧ ∀ (i_1 : Nat), i_1 < b.nb i → True ∧ b.bar i i_1 = x_2.bar i i_1) ∧ True) ∧ x_2.wf ∧ ((errOf x != (0 : Int)) = true → True ∧ true = false) ∧ ((errOf x != (0 : Int)) = false → (((↑(opn x (0 : Int)).nc : Int) != (↑b.nc : Int)) = true → True ∧ true = false) ∧ (((↑(opn x (0 : Int)).nc : Int) != (↑b.nc : Int)) = false → ∃ (x_3 : Nat × (Nat → Int)), ((True ∧ True ∧ (opn x (0 : Int)).nc = x_3.fst ∧ ∀ (i : Nat), i < (opn x (0 : Int)).nc → True ∧ ln x i x.ns = x_3.snd i) ∧ True) ∧ (x_3.fst < (4611686018427387904 : Nat) ∧ ∀ (k : Nat), k ≤ x_3.fst → inRange IntKind.i64 (sumN k x_3.snd)) ∧ ((!(brE x_2 == (4 : Int)) == (sumN x_3.fst x_3.snd == (0 : Int))) = true → True ∧ true = false) ∧ ((!(brE x_2 == (4 : Int)) == (sumN x_3.fst x_3.snd == (0 : Int))) = false → ((0 : Nat) + b.nc) * (8 : Nat) ≤ (140737488355328 : Nat) ∧ (0 : Nat) + b.nc < (4611686018427387904 : Nat) ∧ (∃ (g : Nat), (g ≤ b.nc ∧ ∀ (q : Nat), q < g → b.cash q + ln b q b.ns ≤ (10000 : Int)) ∧ True ∧ ((True ∧ (0 : Int) = (↑g : Int)) ∧ True) ∧ (True ∧ True ∧ (0 : Nat) + b.nc = b.nc ∧ ∀ (i : Nat), i < (0 : Nat) + b.nc → True ∧ b.cash (i - (0 : Nat)) = lentF b g i) ∧ True) ∧ ∀ (g : Nat), (g ≤ b.nc ∧ ∀ (q : Nat), q < g → b.cash q + ln b q b.ns ≤ (10000 : Int)) → (decide ((↑g : Int) < (↑(opn x (0 : Int)).nc : Int)) = true → (0 : Int) ≤ (↑g : Int) ∧ (↑g : Int) < (↑(opn x (0 : Int)).nc : Int) ∧ (decide (ln x g x.ns < (0 : Int)) = true → True ∧ true = false) ∧ (decide (ln x g x.ns < (0 : Int)) = false → (0 : Int) ≤ (↑g : Int) ∧ (↑g : Int) < (↑((0 : Nat) + b.nc) : Int) ∧ (0 : Int) ≤ (↑g : Int) ∧ (↑g : Int) < (↑(opn x (0 : Int)).nc : Int) ∧ inRange IntKind.i64 (lentF b g g + ln x g x.ns) ∧ (0 : Int) ≤ (↑g : Int) ∧ (↑g : Int) < (↑((0 : Nat) + b.nc) : Int) ∧ (0 : Int) ≤ (↑g : Int) ∧ (↑g : Int) < (↑((0 : Nat) + b.nc) : Int) ∧ (decide ((10000 : Int) < if g = g then lentF b g g + ln x g x.ns else lentF b g g) = true → ∃ (x : Unit), True ∧ True ∧ True ∧ true = true) ∧ (decide ((10000 : Int) < if g = g then lentF b g g + ln x g x.ns else lentF b g g) = false → inRange IntKind.i64 ((↑g : Int) + (1 : Int)) ∧ ∃ (g' : Nat), (g' ≤ b.nc ∧ ∀ (q : Nat), q < g' → b.cash q + ln b q b.ns ≤ (10000 : Int)) ∧ b.nc - g' < b.nc - g ∧ True ∧ ((True ∧ (↑g : Int) + (1 : Int) = (↑g' : Int)) ∧ True) ∧ (True ∧ True ∧ b.nc = b.nc ∧ ∀ (i : Nat), i < b.nc → True ∧ (if i = g then lentF b g g + ln x g x.ns else lentF b g i) = lentF b g' i) ∧ True))) ∧ (decide ((↑g : Int) < (↑(opn x (0 : Int)).nc : Int)) = false → ∃ (x_4 : Book), ((True ∧ ((True ∧ True ∧ True ∧ b.nc = x_4.nc ∧ ∀ (i : Nat), i < b.nc → True ∧ lentF b g i = x_4.cash i) ∧ True ∧ True ∧ b.nd = x_4.nd ∧ ∀ (i : Nat), i < b.nd → ((True ∧ b.frm i = x_4.frm i) ∧ b.to i = x_4.to i) ∧ b.due i = x_4.due i) ∧ True ∧ True ∧ b.ns = x_4.ns ∧ ∀ (i : Nat), i < b.ns → (True ∧ b.price i = x_4.price i) ∧ True ∧ b.nb i = x_4.nb i ∧ ∀ (i_1 : Nat), i_1 < b.nb i → True ∧ b.bar i i_1 = x_4.bar i i_1) ∧ True) ∧ x_4.wf ∧ ((brE x_4 != (4 : Int)) = true → True ∧ true = false) ∧ ((brE x_4 != (4 : Int)) = false → ∃ (x_5 : Int × Int), ((True ∧ s = x_5.fst) ∧ (True ∧ (↑(opn x (0 : Int)).nc : Int) = x_5.snd) ∧ True) ∧ ((0 : Int) < x_5.snd ∧ x_5.snd ≤ (9223372036854775807 : Int)) ∧ (0 : Int) ≤ x_5.fst % x_5.snd ∧ x_5.fst % x_5.snd < (↑(opn x (0 : Int)).nc : Int) ∧ ((ln x (x_5.fst % x_5.snd).toNat x.ns == (0 : Int)) = true → ∃ (x : Unit), True ∧ True ∧ True ∧ true = true) ∧ ((ln x (x_5.fst % x_5.snd).toNat x.ns == (0 : Int)) = false → (0 : Int) ≤ x_5.fst % x_5.snd ∧ x_5.fst % x_5.snd < (↑((0 : Nat) + b.nc) : Int) ∧ inRange IntKind.i64 (lentF b g (x_5.fst % x_5.snd).toNat - (1 : Int)) ∧ (0 : Int) ≤ x_5.fst % x_5.snd ∧ x_5.fst % x_5.snd < (↑((0 : Nat) + b.nc) : Int) ∧ ∃ (x : Book), ((True ∧ ((True ∧ True ∧ True ∧ b.nc = x.nc ∧ ∀ (i : Nat), i < b.nc → True ∧ (if i = (x_5.fst % x_5.snd).toNat then lentF b g (x_5.fst % x_5.snd).toNat - (1 : Int) else lentF b g i) = x.cash i) ∧ True ∧ True ∧ b.nd = x.nd ∧ ∀ (i : Nat), i < b.nd → ((True ∧ b.frm i = x.frm i) ∧ b.to i = x.to i) ∧ b.due i = x.due i) ∧ True ∧ True ∧ b.ns = x.ns ∧ ∀ (i : Nat), i < b.ns → (True ∧ b.price i = x.price i) ∧ True ∧ b.nb i = x.nb i ∧ ∀ (i_1 : Nat), i_1 < b.nb i → True ∧ b.bar i i_1 = x.bar i i_1) ∧ True) ∧ x.wf ∧ ((brE x != (0 : Int)) = true → True ∧ true = false) ∧ ((brE x != (0 : Int)) = false → inRange IntKind.i64 ((↑b.ns : Int) - (1 : Int)) ∧ ∃ (x_6 : Int × Int × Int), ((True ∧ brS x = x_6.fst) ∧ (True ∧ (0 : Int) = x_6.snd.fst) ∧ (True ∧ (↑b.ns : Int) - (1 : Int) = x_6.snd.snd) ∧ True) ∧ True ∧ ((!within x_6.fst x_6.snd.fst x_6.snd.snd) = true → True ∧ true = false) ∧ ((!within x_6.fst x_6.snd.fst x_6.snd.snd) = false → inRange IntKind.i64 ((↑b.nd : Int) - (1 : Int)) ∧ ∃ (x_7 : Int × Int × Int), ((True ∧ brD x = x_7.fst) ∧ (True ∧ (0 : Int) = x_7.snd.fst) ∧ (True ∧ (↑b.nd : Int) - (1 : Int) = x_7.snd.snd) ∧ True) ∧ True ∧ ((!within x_7.fst x_7.snd.fst x_7.snd.snd) = true → True ∧ true = false) ∧ ((!within x_7.fst x_7.snd.fst x_7.snd.snd) = false → (0 : Int) ≤ brD x ∧ brD x < (↑b.nd : Int) ∧ ((b.frm (brD x).toNat != x_5.fst % x_5.snd) = true → True ∧ true = false) ∧ ((b.frm (brD x).toNat != x_5.fst % x_5.snd) = false → ∃ (x_8 : Book × Int), ((True ∧ ((True ∧ True ∧ True ∧ b.nc = x_8.fst.nc ∧ ∀ (i : Nat), i < b.nc → True ∧ (if i = (x_5.fst % x_5.snd).toNat then lentF b g (x_5.fst % x_5.snd).toNat - (1 : Int) else lentF b g i) = x_8.fst.cash i) ∧ True ∧ True ∧ b.nd = x_8.fst.nd ∧ ∀ (i : Nat), i < b.nd → ((True ∧ b.frm i = x_8.fst.frm i) ∧ b.to i = x_8.fst.to i) ∧ b.due i = x_8.fst.due i) ∧ True ∧ True ∧ b.ns = x_8.fst.ns ∧ ∀ (i : Nat), i < b.ns → (True ∧ b.price i = x_8.fst.price i) ∧ True ∧ b.nb i = x_8.fst.nb i ∧ ∀ (i_1 : Nat), i_1 < b.nb i → True ∧ b.bar i i_1 = x_8.fst.bar i i_1) ∧ (True ∧ brS x = x_8.snd) ∧ True) ∧ x_8.fst.wf ∧ ((askE x_8.fst x_8.snd == (0 : Int)) = true → (((↑(opn x_8.fst x_8.snd).nd : Int) == (↑b.nd : Int)) = true → (0 : Int) ≤ brD x ∧ brD x < (↑(opn x_8.fst x_8.snd).nd : Int) ∧ ((rnd x_8.fst x_8.snd.toNat (brD x).toNat == (1 : Int)) = true → ∃ (x : Unit), True ∧ True ∧ True ∧ true = true) ∧ ((rnd x_8.fst x_8.snd.toNat (brD x).toNat == (1 : Int)) = false → True ∧ true = false)) ∧ (((↑(opn x_8.fst x_8.snd).nd : Int) == (↑b.nd : Int)) = false → True ∧ true = false)) ∧ ((askE x_8.fst x_8.snd == (0 : Int)) = false → True ∧ true = false))))))))))))) (by kernel_rfl) ?_
  simp only [true_and, and_true, inR, Prod.exists, Prod.forall, and_assoc, exists_and_left, exists_eq_left', exists_eq_left, forall_eq, exists_const, forall_const, loopN, loopM, fa2, fas, fas2, dup1, dup2, dup3, dup4, ite_true, exhs, exhn, exhz, exho, exs1, exn1, exz1, exo1, exs2, exn2, exz2, exo2, exs3, exn3, exz3, exo3, exs4, exn4, exz4, exo4, exs5, exn5, exz5, exo5, exs6, exn6, exz6, exo6, exs7, exn7, exz7, exo7, exs8, exn8, exz8, exo8, exs9, exn9, exz9, exo9, ex1, ex2, ex3, ex4, ex5, beqI, bneI, decide_true, Bool.true_and, decide_eq_true_eq, decide_eq_false_iff_not, ne_eq, Decidable.not_not]
  have hw : b.wf := h
  refine ⟨b, bk b ⟨hw, b, bk b ⟨hw, fun hc => ?_, fun hc => ?_⟩⟩⟩
  · rw [Bool.not_eq_true'] at hc
    have he : ¬ errOf b = 0 := fun e => by
      have := err_zero.1 e
      rw [hc] at this; cases this
    have ho : opn b 0 = noBook := opn_bad (by rw [askE_zero]; exact he)
    rw [ho]
    exact ⟨fun _ => ⟨fun _ => trivial, fun h => absurd rfl h⟩, fun h => absurd h he⟩
  rw [Bool.not_eq_false'] at hc
  have g := good hc
  have he := err_zero.2 hc
  have ho : opn b 0 = b := (askE_ok (askE_zero.trans he)).2.2.2
  have h1 := g.nd; have h2 := g.ns; have h3 := g.ns1; have h4 := g.nc; have h5 := g.nc1
  have lb : ∀ p, p < b.nc → 0 ≤ ln b p b.ns ∧ ln b p b.ns ≤ 120000 := fun p hp => ⟨ln_nonneg, ln_le g hp (Nat.le_refl _)⟩
  have hz := lent_zero hc
  rw [ho]
  refine ⟨b, bk b ⟨hw, fun h => absurd he h, fun _ => ⟨fun h => absurd rfl h, fun _ => ⟨fun p => ln b p b.ns, fun _ _ => rfl, by omega, fun k hk => ?_, fun h => ?_, fun _ => ⟨by omega, by omega, ⟨0, by omega, fun q hq => by omega, by omega, by omega, fun i hi => ?_⟩, fun P hP => ⟨fun hlt => ?_, fun hge => ?_⟩⟩⟩⟩⟩⟩
  · have k1 : 0 ≤ sumN k (fun p => ln b p b.ns) := sumN_nonneg fun i hi => (lb i (by omega)).1
    have k2 : sumN k (fun p => ln b p b.ns) ≤ k * 120000 := sumN_bound fun i hi => (lb i (by omega)).2
    exact ⟨by omega, by omega⟩
  · rw [decide_eq_decide.2 hz] at h
    generalize decide (sumN b.nc (fun p => ln b p b.ns) = 0) = t at h
    cases t <;> simp at h
  · rw [Nat.sub_zero]
    exact (if_neg (Nat.not_lt_zero _)).symm
  · obtain ⟨hP1, hP2⟩ := hP
    have hP3 : P < b.nc := by omega
    have k1 := lb P hP3
    have k2 := g.cash P hP3
    rw [lentF_at]
    refine ⟨by omega, by omega, fun h => absurd h (by omega), fun _ => ⟨by omega, by omega, by omega, by omega, by omega, by omega, by omega, by omega, by omega, by omega, fun _ => trivial, fun hle => ⟨by omega, by omega, P + 1, by omega, fun q hq => ?_, by omega, by omega, fun i hi => ?_⟩⟩⟩
    · by_cases e : q = P
      · subst e; omega
      · exact hP2 q (by omega)
    · unfold lentF
      by_cases e : i = P
      · subst e; rw [if_pos rfl, if_pos (by omega)]
      · rw [if_neg e]
        by_cases e2 : i < P
        · rw [if_pos e2, if_pos (by omega)]
        · rw [if_neg e2, if_neg (by omega)]
  · obtain ⟨hP1, hP2⟩ := hP
    obtain rfl : P = b.nc := (by omega)
    obtain ⟨K, eK, hK⟩ : ∃ K : Nat, s % b.nc = K ∧ K < b.nc := by
      have k1 := Int.emod_nonneg s (b := b.nc) (by omega)
      have k2 := Int.emod_lt_of_pos s (b := (b.nc : Int)) (by omega)
      exact ⟨(s % b.nc).toNat, by omega, by omega⟩
    simp only [eK, Int.toNat_natCast]
    have lF : ∀ j, j < b.nc → lentF b b.nc j = b.cash j + ln b j b.ns := fun j hj => if_pos hj
    have gx : Good (lentB b) := ⟨g.nc1, g.nc, g.nd, g.ns1, g.ns, fun i hi => by
      have k1 := lb i hi; have k2 := g.cash i hi; have k3 := hP2 i hi
      show 0 ≤ lentF b b.nc i ∧ lentF b b.nc i ≤ 10000
      rw [lF i hi]; omega, g.frm, g.to, g.ne, g.due, g.price, g.nb, g.bar⟩
    have wx : (lentB b).wf := ⟨hw.nc, hw.nd, hw.ns, hw.nb⟩
    have nx : ∀ S p, p < b.nc → Cm.need (lentB b) S p = Cm.need b S p - ln b p b.ns := fun S p hp => by
      have k1 : has (lentB b) S p = lentF b b.nc p + b.bar S p * b.price S := rfl
      have k2 : has b S p = b.cash p + b.bar S p * b.price S := rfl
      have k3 : Cm.need (lentB b) S p = owes b b.due p b.nd - gets b b.due p b.nd - has (lentB b) S p := rfl
      rw [k3, k1, lF p hp]
      unfold Cm.need
      rw [k2]; omega
    have hx4 : brE (lentB b) = 4 := (brE_four (chk_of gx)).2 fun S p hS hp => by
      have k1 := ln_ge (b := b) (s := S) (p := p) (k := b.ns) hS
      rw [nx S p hp]; omega
    refine ⟨lentB b, rfl, fun _ _ => rfl, rfl, fun _ _ => ⟨rfl, rfl, rfl⟩, rfl, fun _ _ => ⟨rfl, rfl, fun _ _ => rfl⟩, wx, fun h => absurd hx4 h, fun _ => ⟨by omega, by omega, by omega, by omega, fun _ => trivial, fun hl => ?_⟩⟩
    have k1 := lb K hK; have k2 := g.cash K hK; have k3 := hP2 K hK
    have lK := lF K hK
    have gy : Good (lessB b K) := ⟨g.nc1, g.nc, g.nd, g.ns1, g.ns, fun i hi => by
      show 0 ≤ (if i = K then lentF b b.nc K - 1 else lentF b b.nc i) ∧ (if i = K then lentF b b.nc K - 1 else lentF b b.nc i) ≤ 10000
      have k1 := lb i hi; have k2 := g.cash i hi; have k3 := hP2 i hi
      by_cases e : i = K
      · subst e; rw [if_pos rfl]; omega
      · rw [if_neg e, lF i hi]; omega, g.frm, g.to, g.ne, g.due, g.price, g.nb, g.bar⟩
    have wy : (lessB b K).wf := ⟨hw.nc, hw.nd, hw.ns, hw.nb⟩
    have ny : ∀ S p, p < b.nc → Cm.need (lessB b K) S p = Cm.need b S p - ln b p b.ns + if p = K then 1 else 0 := fun S p hp => by
      have k1 : has (lessB b K) S p = (if p = K then lentF b b.nc K - 1 else lentF b b.nc p) + b.bar S p * b.price S := rfl
      have k2 : has b S p = b.cash p + b.bar S p * b.price S := rfl
      have k3 : Cm.need (lessB b K) S p = owes b b.due p b.nd - gets b b.due p b.nd - has (lessB b K) S p := rfl
      rw [k3, k1]
      unfold Cm.need
      rw [k2]
      by_cases e : p = K
      · subst e; rw [if_pos rfl, if_pos rfl, lF p hp]; omega
      · rw [if_neg e, if_neg e, lF p hp]; omega
    have hy : ¬ brE (lessB b K) = 4 := fun h4 => by
      obtain ⟨S, q1, q2⟩ := ln_at (b := b) (p := K) (k := b.ns) (by omega)
      have q3 := (brE_four (chk_of gy)).1 h4 S K q1 hK
      rw [ny S K hK, if_pos rfl] at q3
      omega
    obtain ⟨y1, S, D, y2, y3, y4, y5, y6, _⟩ : brE (lessB b K) = 0 ∧ ∃ S D : Nat, brS (lessB b K) = S ∧ S < (lessB b K).ns ∧ brD (lessB b K) = D ∧ D < (lessB b K).nd ∧ worst (lessB b K) S (lessB b K).nd = D ∧ ∀ s, s < S → worst (lessB b K) s (lessB b K).nd < 0 := by
      rcases br_spec (chk_of gy) with h | h
      · exact h
      · exact absurd h.1 hy
    have y3 : S < b.ns := y3
    have y5 : D < b.nd := y5
    obtain ⟨z1, z2⟩ := one_lacks gy y3 hK (fun p hp hne => by
      rw [ny S p hp, if_neg hne]
      have := ln_ge (b := b) (s := S) (p := p) (k := b.ns) y3
      omega) y5 y6
    have z1 : b.frm D = K := z1
    have ha : askE (lessB b K) (S : Int) = 0 := (askE_in (err_zero.2 (chk_of gy)) (Cm.within_iff.2 ⟨by omega, by show (S : Int) ≤ (b.ns : Int) - 1; omega⟩)).1
    have hoy : opn (lessB b K) (S : Int) = lessB b K := if_pos ha
    have w1 : within (S : Int) 0 (b.ns - 1) = true := Cm.within_iff.2 ⟨by omega, by omega⟩
    have w2 : within (D : Int) 0 (b.nd - 1) = true := Cm.within_iff.2 ⟨by omega, by omega⟩
    refine ⟨by omega, by omega, by omega, by omega, by omega, by omega, lessB b K, rfl, fun _ _ => rfl, rfl, fun _ _ => ⟨rfl, rfl, rfl⟩, rfl, fun _ _ => ⟨rfl, rfl, fun _ _ => rfl⟩, wy, fun h => absurd y1 h, fun _ => ?_⟩
    rw [y2, y4]
    simp only [Int.toNat_natCast]
    refine ⟨by omega, by omega, fun h => no_not w1 h, fun _ => ⟨by omega, by omega, fun h => no_not w2 h, fun _ => ⟨by omega, by omega, fun h => absurd z1 h, fun _ => ⟨lessB b K, rfl, fun _ _ => rfl, rfl, fun _ _ => ⟨rfl, rfl, rfl⟩, rfl, fun _ _ => ⟨rfl, rfl, fun _ _ => rfl⟩, wy, fun _ => ⟨fun _ => ⟨by omega, ?_, fun _ => trivial, fun h => absurd z2 h⟩, fun h => ?_⟩, fun h => absurd ha h⟩⟩⟩⟩
    · rw [hoy]; show (D : Int) < (b.nd : Int); omega
    · rw [hoy] at h; exact absurd rfl h
end Go.Proofs.YthofpbnbjkdpaaaDoor
