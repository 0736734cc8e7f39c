/- The law of the odds, counted one by one, as a contract. -/
import Derived.Test.YthcplmlkgaiggaaBxF
import Derived.Test.YthcplmlkgaiggaaBxSpec9
set_option linter.unusedSimpArgs false
set_option linter.unusedVariables false
namespace Go.Proofs.Ythcplmlkgaiggaa
open Go Go.Sx Bm
set_option maxRecDepth 100000

def sBits : Sig := ⟨Nat, fun s => [intC s], fun s => s < 2048, fun s => [.v (intC (pc s))]⟩
def aBits (s : Nat) : Ann := { G := Nat × Nat, ok := fun _ g => g.1 < 2048 ∧ g.2 + pc g.1 = pc s, dom := fun _ => [], tm := fun _ g => [(0, .t (intC g.1)), (3, .t (intC g.2))], hp := fun _ _ => [], mu := fun _ g => g.1 }
theorem q31 (s : Nat) (h : s < 2048) : CallQ Try.prog E0 31 (sBits.arg s) (sBits.res s) := by
  refine bare_all E0_ok TF TF_ok V5 V5_ok runs [(31, 2, aBits s)] [] [] [] (fuel := 3) ?_
  refine of_red (q := (∃ (g : Nat × Nat), (g.fst < (2048 : Nat) ∧ g.snd + pc g.fst = pc s) ∧ True ∧ ((True ∧ (↑s : Int) = (↑g.fst : Int)) ∧ (True ∧ (0 : Int) = (↑g.snd : Int)) ∧ True) ∧ True) ∧ ∀ (g : Nat × Nat), g.fst < (2048 : Nat) ∧ g.snd + pc g.fst = pc s → (decide ((0 : Int) < (↑g.fst : Int)) = true → (2 : Int) ≠ (0 : Int) ∧ inRange IntKind.i64 ((↑g.snd : Int) + (↑g.fst : Int).tmod (2 : Int)) ∧ (2 : Int) ≠ (0 : Int) ∧ inRange IntKind.i64 ((↑g.fst : Int).tdiv (2 : Int)) ∧ ∃ (g' : Nat × Nat), (g'.fst < (2048 : Nat) ∧ g'.snd + pc g'.fst = pc s) ∧ g'.fst < g.fst ∧ True ∧ ((True ∧ (↑g.fst : Int).tdiv (2 : Int) = (↑g'.fst : Int)) ∧ (True ∧ (↑g.snd : Int) + (↑g.fst : Int).tmod (2 : Int) = (↑g'.snd : Int)) ∧ True) ∧ True) ∧ (decide ((0 : Int) < (↑g.fst : Int)) = false → True ∧ (↑g.snd : Int) = (↑(pc s) : Int))) (by kernel_rfl) ?_
  simp only [true_and, and_true, inR, Prod.exists, Prod.forall, and_assoc, exists_and_left, exists_eq_left', exists_eq_left, forall_eq, exists_const, forall_const, loopN, loopM, fa2, fas, fas2, dup1, dup2, dup3, dup4, ite_true, exhs, exhn, exhz, exho, exs1, exn1, exz1, exo1, exs2, exn2, exz2, exo2, exs3, exn3, exz3, exo3, exs4, exn4, exz4, exo4, exs5, exn5, exz5, exo5, exs6, exn6, exz6, exo6, exs7, exn7, exz7, exo7, exs8, exn8, exz8, exo8, exs9, exn9, exz9, exo9, ex1, ex2, ex3, ex4, ex5, beqI, bneI, decide_true, Bool.true_and, decide_eq_true_eq, decide_eq_false_iff_not, ne_eq, Decidable.not_not]
  have l1 : pc s ≤ 11 := pcN_le
  refine ⟨h, Nat.zero_add _, fun a b ⟨h1, h2⟩ => ⟨fun h0 => ?_, fun h0 => ?_⟩⟩
  · have e1 : (a : Int).tmod 2 = ((a % 2 : Nat) : Int) := rfl
    have e2 : (a : Int).tdiv 2 = ((a / 2 : Nat) : Int) := rfl
    have hp := pc_half h1
    rw [e1, e2]
    exact ⟨by omega, by omega, by omega, by omega, by omega, by omega, a / 2, by omega, b + a % 2, by omega, by omega, rfl, by omega⟩
  · obtain rfl : a = 0 := by omega
    have e0 : pc 0 = 0 := pcN_zero 11
    omega
def TS : List (Nat × Sig) := (31, sBits) :: TF
theorem TS_ok : SigsOk Try.prog E0 TS := TF_ok.cons (runs 31 (by kernel_rfl)) q31
def gN (n : Nat → Int) : Nat := (1 + n 0 % 10).toNat
def gb (n : Nat → Int) : Nat := (n 1 % ((gN n : Int) + 1)).toNat
def go (n : Nat → Int) : Nat := (n 2 % ((gN n : Int) + 1)).toNat
def ga (n : Nat → Int) : Nat := (n 3 % ((go n : Int) + 1)).toNat
def aS0 (n : Nat → Int) : Ann := { G := Unit, ok := fun _ _ => True, dom := fun _ => [], tm := fun _ _ => [(3, .t (intC (gN n))), (4, .t (intC (gb n))), (5, .t (intC (go n))), (6, .t (intC (ga n)))], hp := fun _ _ => [], mu := fun _ _ => 0 }
def aS1 (N b o a : Nat) : Ann := { G := Nat, ok := fun _ s => s ≤ 2 ^ N, dom := fun _ => [], tm := fun _ s => [(9, .t (intC s)), (8, .t (intC (cn (fun s => decide (pc s = o)) s))), (7, .t (intC (cn (fw b o a) s)))], hp := fun _ _ => [], mu := fun _ s => 2 ^ N - s }
def sLaw8 : Sig := ⟨Nat → Int, fun n => [arrTV 4 n], fun _ => True, fun _ => [.v (.c (.bool true))]⟩
theorem q8 (n : sLaw8.α) : CallQ Try.prog E0 8 (sLaw8.arg n) (sLaw8.res n) := by
  refine bare_tight E0_ok TS TS_ok V5 V5_ok runs [(8, 6, aS1 (gN n) (gb n) (go n) (ga n))] [(8, 4, aS0 n)] [] [] [] [] (fuel := 5) ?_
  refine of_red (q := (0 : Int) ≤ (0 : Int) ∧ (0 : Int) < (↑(4 : Nat) : Int) ∧ ∃ (x : Int × Int), ((True ∧ n ((0 : Nat) + (0 : Nat) * (1 : Nat) + (0 : Nat) + (0 : Nat)) = x.fst) ∧ (True ∧ (10 : Int) = x.snd) ∧ True) ∧ ((1 : Int) ≤ x.snd ∧ x.snd ≤ (1000 : Int)) ∧ inRange IntKind.i64 ((1 : Int) + x.fst % x.snd) ∧ (0 : Int) ≤ (1 : Int) ∧ (1 : Int) < (↑(4 : Nat) : Int) ∧ inRange IntKind.i64 ((1 : Int) + x.fst % x.snd + (1 : Int)) ∧ ∃ (x_1 : Int × Int), ((True ∧ n ((0 : Nat) + (1 : Nat) * (1 : Nat) + (0 : Nat) + (0 : Nat)) = x_1.fst) ∧ (True ∧ (1 : Int) + x.fst % x.snd + (1 : Int) = x_1.snd) ∧ True) ∧ ((1 : Int) ≤ x_1.snd ∧ x_1.snd ≤ (1000 : Int)) ∧ (0 : Int) ≤ (2 : Int) ∧ (2 : Int) < (↑(4 : Nat) : Int) ∧ inRange IntKind.i64 ((1 : Int) + x.fst % x.snd + (1 : Int)) ∧ ∃ (x_2 : Int × Int), ((True ∧ n ((0 : Nat) + (2 : Nat) * (1 : Nat) + (0 : Nat) + (0 : Nat)) = x_2.fst) ∧ (True ∧ (1 : Int) + x.fst % x.snd + (1 : Int) = x_2.snd) ∧ True) ∧ ((1 : Int) ≤ x_2.snd ∧ x_2.snd ≤ (1000 : Int)) ∧ ((0 : Int) ≤ (3 : Int) ∧ (3 : Int) < (↑(4 : Nat) : Int) ∧ inRange IntKind.i64 (x_2.fst % x_2.snd + (1 : Int)) ∧ ∃ (x_3 : Int × Int), ((True ∧ n ((0 : Nat) + (3 : Nat) * (1 : Nat) + (0 : Nat) + (0 : Nat)) = x_3.fst) ∧ (True ∧ x_2.fst % x_2.snd + (1 : Int) = x_3.snd) ∧ True) ∧ ((1 : Int) ≤ x_3.snd ∧ x_3.snd ≤ (1000 : Int)) ∧ ∃ (g : Unit), True ∧ True ∧ ((True ∧ (1 : Int) + x.fst % x.snd = (↑(gN n) : Int)) ∧ (True ∧ x_1.fst % x_1.snd = (↑(gb n) : Int)) ∧ (True ∧ x_2.fst % x_2.snd = (↑(go n) : Int)) ∧ (True ∧ x_3.fst % x_3.snd = (↑(ga n) : Int)) ∧ True) ∧ True) ∧ ∀ (g : Unit), True → (∃ (g : Nat), g ≤ (2 : Nat) ^ gN n ∧ True ∧ ((True ∧ (0 : Int) = (↑g : Int)) ∧ (True ∧ (0 : Int) = (↑(cn (fun (s : Nat) => decide (pc s = go n)) g) : Int)) ∧ (True ∧ (0 : Int) = (↑(cn (fw (gb n) (go n) (ga n)) g) : Int)) ∧ True) ∧ True) ∧ ∀ (g : Nat), g ≤ (2 : Nat) ^ gN n → (0 : Int) ≤ (↑(gN n) : Int) ∧ (↑(gN n) : Int) ≤ (64 : Int) ∧ inRange IntKind.i64 ((1 : Int) * (2 : Int) ^ gN n) ∧ (decide ((↑g : Int) < (1 : Int) * (2 : Int) ^ gN n) = true → ∃ (x : Nat), ((True ∧ (↑g : Int) = (↑x : Int)) ∧ True) ∧ x < (2048 : Nat) ∧ (((↑(pc x) : Int) != (↑(go n) : Int)) = true → inRange IntKind.i64 ((↑g : Int) + (1 : Int)) ∧ ∃ (g' : Nat), g' ≤ (2 : Nat) ^ gN n ∧ (2 : Nat) ^ gN n - g' < (2 : Nat) ^ gN n - g ∧ True ∧ ((True ∧ (↑g : Int) + (1 : Int) = (↑g' : Int)) ∧ (True ∧ (↑(cn (fun (s : Nat) => decide (pc s = go n)) g) : Int) = (↑(cn (fun (s : Nat) => decide (pc s = go n)) g') : Int)) ∧ (True ∧ (↑(cn (fw (gb n) (go n) (ga n)) g) : Int) = (↑(cn (fw (gb n) (go n) (ga n)) g') : Int)) ∧ True) ∧ True) ∧ (((↑(pc x) : Int) != (↑(go n) : Int)) = false → inRange IntKind.i64 ((↑(cn (fun (s : Nat) => decide (pc s = go n)) g) : Int) + (1 : Int)) ∧ (0 : Int) ≤ (↑(gb n) : Int) ∧ (↑(gb n) : Int) ≤ (64 : Int) ∧ inRange IntKind.i64 ((1 : Int) * (2 : Int) ^ gb n) ∧ inRange IntKind.i64 ((1 : Int) * (2 : Int) ^ gb n - (1 : Int)) ∧ (0 : Int) ≤ (↑g : Int) ∧ (0 : Int) ≤ (1 : Int) * (2 : Int) ^ gb n - (1 : Int) ∧ inRange IntKind.i64 (↑g : Int) ∧ inRange IntKind.i64 ((1 : Int) * (2 : Int) ^ gb n - (1 : Int)) ∧ ∃ (x : Nat), ((True ∧ (↑(g &&& ((1 : Int) * (2 : Int) ^ gb n - (1 : Int)).toNat) : Int) = (↑x : Int)) ∧ True) ∧ x < (2048 : Nat) ∧ (decide ((↑(pc x) : Int) ≤ (↑(ga n) : Int)) = true → inRange IntKind.i64 ((↑(cn (fw (gb n) (go n) (ga n)) g) : Int) + (1 : Int)) ∧ inRange IntKind.i64 ((↑g : Int) + (1 : Int)) ∧ ∃ (g' : Nat), g' ≤ (2 : Nat) ^ gN n ∧ (2 : Nat) ^ gN n - g' < (2 : Nat) ^ gN n - g ∧ True ∧ ((True ∧ (↑g : Int) + (1 : Int) = (↑g' : Int)) ∧ (True ∧ (↑(cn (fun (s : Nat) => decide (pc s = go n)) g) : Int) + (1 : Int) = (↑(cn (fun (s : Nat) => decide (pc s = go n)) g') : Int)) ∧ (True ∧ (↑(cn (fw (gb n) (go n) (ga n)) g) : Int) + (1 : Int) = (↑(cn (fw (gb n) (go n) (ga n)) g') : Int)) ∧ True) ∧ True) ∧ (decide ((↑(pc x) : Int) ≤ (↑(ga n) : Int)) = false → inRange IntKind.i64 ((↑g : Int) + (1 : Int)) ∧ ∃ (g' : Nat), g' ≤ (2 : Nat) ^ gN n ∧ (2 : Nat) ^ gN n - g' < (2 : Nat) ^ gN n - g ∧ True ∧ ((True ∧ (↑g : Int) + (1 : Int) = (↑g' : Int)) ∧ (True ∧ (↑(cn (fun (s : Nat) => decide (pc s = go n)) g) : Int) + (1 : Int) = (↑(cn (fun (s : Nat) => decide (pc s = go n)) g') : Int)) ∧ (True ∧ (↑(cn (fw (gb n) (go n) (ga n)) g) : Int) = (↑(cn (fw (gb n) (go n) (ga n)) g') : Int)) ∧ True) ∧ True))) ∧ (decide ((↑g : Int) < (1 : Int) * (2 : Int) ^ gN n) = false → ∃ (x : Int × Int), ((True ∧ (↑(go n) : Int) = x.fst) ∧ (True ∧ (↑(ga n) : Int) = x.snd) ∧ True) ∧ True ∧ ∃ (x_3 : Int × Int × Int × Int), ((True ∧ (↑(gN n) : Int) = x_3.fst) ∧ (True ∧ (↑(gb n) : Int) = x_3.snd.fst) ∧ (True ∧ (True ∧ True ∧ x.fst = x_3.snd.snd.fst) ∧ True ∧ x.snd = x_3.snd.snd.snd) ∧ True) ∧ True ∧ ((oddsE x_3.fst x_3.snd.fst x_3.snd.snd.fst x_3.snd.snd.snd == (0 : Int)) = true → (decide ((0 : Int) < oddsIn x_3.fst x_3.snd.fst x_3.snd.snd.fst x_3.snd.snd.snd) = true → inRange IntKind.i64 (oddsOf x_3.fst x_3.snd.fst x_3.snd.snd.fst x_3.snd.snd.snd * (↑(cn (fun (s : Nat) => decide (pc s = go n)) g) : Int)) ∧ inRange IntKind.i64 ((↑(cn (fw (gb n) (go n) (ga n)) g) : Int) * oddsIn x_3.fst x_3.snd.fst x_3.snd.snd.fst x_3.snd.snd.snd) ∧ ((oddsOf x_3.fst x_3.snd.fst x_3.snd.snd.fst x_3.snd.snd.snd * (↑(cn (fun (s : Nat) => decide (pc s = go n)) g) : Int) == (↑(cn (fw (gb n) (go n) (ga n)) g) : Int) * oddsIn x_3.fst x_3.snd.fst x_3.snd.snd.fst x_3.snd.snd.snd) = true → ∃ (x : Nat × Nat), ((True ∧ oddsOf x_3.fst x_3.snd.fst x_3.snd.snd.fst x_3.snd.snd.snd = (↑x.fst : Int)) ∧ (True ∧ oddsIn x_3.fst x_3.snd.fst x_3.snd.snd.fst x_3.snd.snd.snd = (↑x.snd : Int)) ∧ True) ∧ (x.fst ≤ (1099511627776 : Nat) ∧ x.snd ≤ (1099511627776 : Nat)) ∧ (((↑(x.fst.gcd x.snd) : Int) == (1 : Int)) = true → ∃ (x : Unit), True ∧ True ∧ True ∧ true = true) ∧ (((↑(x.fst.gcd x.snd) : Int) == (1 : Int)) = false → True ∧ true = false)) ∧ ((oddsOf x_3.fst x_3.snd.fst x_3.snd.snd.fst x_3.snd.snd.snd * (↑(cn (fun (s : Nat) => decide (pc s = go n)) g) : Int) == (↑(cn (fw (gb n) (go n) (ga n)) g) : Int) * oddsIn x_3.fst x_3.snd.fst x_3.snd.snd.fst x_3.snd.snd.snd) = false → True ∧ true = false)) ∧ (decide ((0 : Int) < oddsIn x_3.fst x_3.snd.fst x_3.snd.snd.fst x_3.snd.snd.snd) = false → True ∧ true = false)) ∧ ((oddsE x_3.fst x_3.snd.fst x_3.snd.snd.fst x_3.snd.snd.snd == (0 : Int)) = false → True ∧ true = false))) (by kernel_rfl) ?_
  simp only [true_and, and_true, inR, Prod.exists, Prod.forall, and_assoc, exists_and_left, exists_eq_left', exists_eq_left, forall_eq, exists_const, forall_const, loopN, loopM, fa2, fas, fas2, dup1, dup2, dup3, dup4, ite_true, exhs, exhn, exhz, exho, exs1, exn1, exz1, exo1, exs2, exn2, exz2, exo2, exs3, exn3, exz3, exo3, exs4, exn4, exz4, exo4, exs5, exn5, exz5, exo5, exs6, exn6, exz6, exo6, exs7, exn7, exz7, exo7, exs8, exn8, exz8, exo8, exs9, exn9, exz9, exo9, ex1, ex2, ex3, ex4, ex5, beqI, bneI, decide_true, Bool.true_and, decide_eq_true_eq, decide_eq_false_iff_not, ne_eq, Decidable.not_not]
  simp only [Nat.reduceAdd, Nat.reduceMul]
  have HN : 1 + n 0 % 10 = (gN n : Int) := by unfold gN; omega
  have N1 : 1 ≤ gN n := by omega
  have N2 : gN n ≤ 10 := by omega
  have Hb : n 1 % ((gN n : Int) + 1) = gb n := by
    unfold gb
    have := Int.emod_nonneg (n 1) (b := (gN n : Int) + 1) (by omega)
    omega
  have b1 : gb n ≤ gN n := by
    have := Int.emod_lt_of_pos (n 1) (b := (gN n : Int) + 1) (by omega)
    omega
  have Ho : n 2 % ((gN n : Int) + 1) = go n := by
    unfold go
    have := Int.emod_nonneg (n 2) (b := (gN n : Int) + 1) (by omega)
    omega
  have o1 : go n ≤ gN n := by
    have := Int.emod_lt_of_pos (n 2) (b := (gN n : Int) + 1) (by omega)
    omega
  have Ha : n 3 % ((go n : Int) + 1) = ga n := by
    unfold ga
    have := Int.emod_nonneg (n 3) (b := (go n : Int) + 1) (by omega)
    omega
  have a1 : ga n ≤ go n := by
    have := Int.emod_lt_of_pos (n 3) (b := (go n : Int) + 1) (by omega)
    omega
  simp only [HN, Hb, Ho, Ha]
  generalize gN n = N at *
  generalize gb n = b at *
  generalize go n = o at *
  generalize ga n = a at *
  have P : (1 : Int) * 2 ^ N = ((2 ^ N : Nat) : Int) := by simp
  have Pb : (1 : Int) * 2 ^ b = ((2 ^ b : Nat) : Int) := by simp
  simp only [P, Pb]
  have T1 : 2 ^ N ≤ 1024 := Nat.pow_le_pow_right (by decide) N2
  have B1 : 2 ^ b ≤ 1024 := Nat.pow_le_pow_right (by decide) (show b ≤ 10 by omega)
  have B0 : 0 < 2 ^ b := Nat.two_pow_pos b
  iterate 24 (refine ⟨by omega, ?_⟩)
  refine ⟨trivial, trivial, trivial, trivial, ⟨0, Nat.zero_le _, rfl, rfl, rfl⟩, fun g hg => ?_⟩
  have c1 := cn_le (p := fun s => decide (pc s = o)) g
  have c2 := cn_le (p := fw b o a) g
  have e5 : g &&& (((2 ^ b : Nat) : Int) - 1).toNat = g % 2 ^ b := by
    have : (((2 ^ b : Nat) : Int) - 1).toNat = 2 ^ b - 1 := by omega
    rw [this, Nat.and_two_pow_sub_one_eq_mod]
  have e6 : g % 2 ^ b < 2 ^ b := Nat.mod_lt _ B0
  refine ⟨by omega, by omega, by omega, by omega, fun hlt => ⟨by omega, fun hne => ?_, fun heq => ?_⟩, fun hge => ?_⟩
  · have d1 : decide (pc g = o) = false := decide_eq_false (by omega)
    have s1 : cn (fun s => decide (pc s = o)) (g + 1) = cn (fun s => decide (pc s = o)) g := by rw [cn, d1]; rfl
    have s2 : cn (fw b o a) (g + 1) = cn (fw b o a) g := by rw [cn, fw, d1]; rfl
    exact ⟨by omega, by omega, g + 1, by omega, by omega, by omega, by rw [s1], by rw [s2]⟩
  · have d1 : decide (pc g = o) = true := decide_eq_true (by omega)
    have s1 : cn (fun s => decide (pc s = o)) (g + 1) = cn (fun s => decide (pc s = o)) g + 1 := by rw [cn, d1]; rfl
    rw [e5]
    refine ⟨by omega, by omega, by omega, by omega, by omega, by omega, by omega, by omega, by omega, by omega, by omega, by omega, by omega, by omega, by omega, fun hle => ?_, fun hle => ?_⟩
    · have d2 : decide (pc (g % 2 ^ b) ≤ a) = true := decide_eq_true (by omega)
      have s2 : cn (fw b o a) (g + 1) = cn (fw b o a) g + 1 := by rw [cn, fw, d1, d2]; rfl
      exact ⟨by omega, by omega, by omega, by omega, g + 1, by omega, by omega, by omega, by rw [s1]; omega, by rw [s2]; omega⟩
    · have d2 : decide (pc (g % 2 ^ b) ≤ a) = false := decide_eq_false (by omega)
      have s2 : cn (fw b o a) (g + 1) = cn (fw b o a) g := by rw [cn, fw, d1, d2]; rfl
      exact ⟨by omega, by omega, g + 1, by omega, by omega, by omega, by rw [s1]; omega, by rw [s2]⟩
  · have hgT : g = 2 ^ N := by omega
    subst hgT
    rw [sets_all (by omega) o] at c1 ⊢
    rw [sets_few (by omega) b1 a1] at c2 ⊢
    obtain ⟨E, g0, p, q, q0, pq, _, f1, f2, e3, e4, hc⟩ := odds_cop N1 (by omega) b1 o1 a1
    have g0p : 0 < g0 := by
      apply Nat.pos_of_ne_zero
      intro h0
      have := ch_pos (n := N) (k := o) o1
      rw [f2, h0, Nat.zero_mul] at this
      omega
    have hq : q ≤ ch N o := by rw [f2]; exact Nat.le_mul_of_pos_left _ g0p
    have m1 : p * ch N o ≤ 1024 * 1024 := Nat.mul_le_mul (by omega) (by omega)
    have m2 : F N b o a * q ≤ 1024 * 1024 := Nat.mul_le_mul (by omega) (by omega)
    have eqn : p * ch N o = F N b o a * q := by
      rw [f1, f2]; ac_rfl
    simp only [E, e3, e4, ← Int.natCast_mul, not_true_eq_false, false_implies, true_implies, and_true]
    refine ⟨fun _ => ⟨by omega, by omega, by omega, by omega, fun _ => ⟨p, rfl, q, rfl, by omega, by omega, fun _ => trivial, fun hne => absurd (by rw [hc]; rfl) hne⟩, fun hne => absurd (by rw [eqn]) hne⟩, fun hne => absurd (by omega) hne⟩
end Go.Proofs.Ythcplmlkgaiggaa
