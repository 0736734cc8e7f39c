/- The chapter's brands, its rule and its barrels, as contracts. -/
import Derived.Test.YthcplmlkgaiggaaBxF
set_option linter.unusedSimpArgs false
set_option linter.unusedVariables false
namespace Go.Proofs.Ythcplmlkgaiggaa
open Go Go.Sx Bm
set_option maxRecDepth 100000

def sBrs : Sig := ⟨Unit, fun _ => [], fun _ => True, fun _ => [.own 70 8 2 (fun i j => .int .i64 (mB i j))]⟩
theorem q41 (x : sBrs.α) : CallQ Try.prog E0 41 (sBrs.arg x) (sBrs.res x) := by
  refine bare_tight E0_ok TF TF_ok V5 V5_ok runs [] [] [] [] [] [] (fuel := 3) ?_
  refine of_red (q := ∃ (x : Int × Int), ((True ∧ (250 : Int) = x.fst) ∧ (True ∧ (400 : Int) = x.snd) ∧ True) ∧ True ∧ ∃ (x_1 : Int × Int), ((True ∧ (150 : Int) = x_1.fst) ∧ (True ∧ (300 : Int) = x_1.snd) ∧ True) ∧ True ∧ ∃ (x_2 : Int × Int), ((True ∧ (120 : Int) = x_2.fst) ∧ (True ∧ (200 : Int) = x_2.snd) ∧ True) ∧ True ∧ ∃ (x_3 : Int × Int), ((True ∧ (900 : Int) = x_3.fst) ∧ (True ∧ (1000 : Int) = x_3.snd) ∧ True) ∧ True ∧ ∃ (x_4 : Int × Int), ((True ∧ (200 : Int) = x_4.fst) ∧ (True ∧ (400 : Int) = x_4.snd) ∧ True) ∧ True ∧ ∃ (x_5 : Int × Int), ((True ∧ (100 : Int) = x_5.fst) ∧ (True ∧ (300 : Int) = x_5.snd) ∧ True) ∧ True ∧ ∃ (x_6 : Int × Int), ((True ∧ (100 : Int) = x_6.fst) ∧ (True ∧ (220 : Int) = x_6.snd) ∧ True) ∧ True ∧ ∃ (x_7 : Int × Int), ((True ∧ (850 : Int) = x_7.fst) ∧ (True ∧ (1000 : Int) = x_7.snd) ∧ True) ∧ True ∧ True ∧ (2 : Nat) = (2 : Nat) ∧ True ∧ True ∧ (2 : Nat) = (2 : Nat) ∧ ∀ (i : Nat), i < (2 : Nat) → (((((((True ∧ (if i = (1 : Nat) then x_4.fst else if i = (0 : Nat) then x.fst else (0 : Int)) = mB i (nat_lit 0)) ∧ (if i = (1 : Nat) then x_4.snd else if i = (0 : Nat) then x.snd else (0 : Int)) = mB i (nat_lit 1)) ∧ (if i = (1 : Nat) then x_5.fst else if i = (0 : Nat) then x_1.fst else (0 : Int)) = mB i (nat_lit 2)) ∧ (if i = (1 : Nat) then x_5.snd else if i = (0 : Nat) then x_1.snd else (0 : Int)) = mB i (nat_lit 3)) ∧ (if i = (1 : Nat) then x_6.fst else if i = (0 : Nat) then x_2.fst else (0 : Int)) = mB i (nat_lit 4)) ∧ (if i = (1 : Nat) then x_6.snd else if i = (0 : Nat) then x_2.snd else (0 : Int)) = mB i (nat_lit 5)) ∧ (if i = (1 : Nat) then x_7.fst else if i = (0 : Nat) then x_3.fst else (0 : Int)) = mB i (nat_lit 6)) ∧ (if i = (1 : Nat) then x_7.snd else if i = (0 : Nat) then x_3.snd else (0 : Int)) = mB i (nat_lit 7)) (by kernel_rfl) ?_
  simp only [true_and, and_true, inR, Prod.exists, Prod.forall, and_assoc, exists_and_left, exists_eq_left', exists_eq_left, forall_eq, exists_const, forall_const, loopN, loopM, fa2, fas, fas2, dup1, dup2, dup3, dup4, ite_true, exhs, exhn, exhz, exho, exs1, exn1, exz1, exo1, exs2, exn2, exz2, exo2, exs3, exn3, exz3, exo3, exs4, exn4, exz4, exo4, exs5, exn5, exz5, exo5, exs6, exn6, exz6, exo6, exs7, exn7, exz7, exo7, exs8, exn8, exz8, exo8, exs9, exn9, exz9, exo9, ex1, ex2, ex3, ex4, ex5, beqI, bneI, decide_true, Bool.true_and, decide_eq_true_eq, decide_eq_false_iff_not, ne_eq, Decidable.not_not]
  exact fun i hi => match i, hi with
  | 0, _ => ⟨rfl, rfl, rfl, rfl, rfl, rfl, rfl, rfl⟩
  | 1, _ => ⟨rfl, rfl, rfl, rfl, rfl, rfl, rfl, rfl⟩
  | i + 2, hi => absurd hi (by omega)
def sRuK : Sig := ⟨Unit, fun _ => [], fun _ => True, fun _ => [.v (arrTV 6 rB)]⟩
theorem q40 (x : sRuK.α) : CallQ Try.prog E0 40 (sRuK.arg x) (sRuK.res x) := by
  refine bare_tight E0_ok TF TF_ok V5 V5_ok runs [] [] [] [] [] [] (fuel := 3) ?_
  refine of_red (q := ∃ (x : Int × Int), ((True ∧ (9 : Int) = x.fst) ∧ (True ∧ (10 : Int) = x.snd) ∧ True) ∧ True ∧ ∃ (x_1 : Int × Int), ((True ∧ (1 : Int) = x_1.fst) ∧ (True ∧ (10 : Int) = x_1.snd) ∧ True) ∧ True ∧ True ∧ (((((True ∧ True ∧ (1 : Int) = rB (nat_lit 0)) ∧ True ∧ x.fst = rB (nat_lit 1)) ∧ True ∧ x.snd = rB (nat_lit 2)) ∧ True ∧ (5 : Int) = rB (nat_lit 3)) ∧ True ∧ x_1.fst = rB (nat_lit 4)) ∧ True ∧ x_1.snd = rB (nat_lit 5)) (by kernel_rfl) ?_
  simp only [true_and, and_true, inR, Prod.exists, Prod.forall, and_assoc, exists_and_left, exists_eq_left', exists_eq_left, forall_eq, exists_const, forall_const, loopN, loopM, fa2, fas, fas2, dup1, dup2, dup3, dup4, ite_true, exhs, exhn, exhz, exho, exs1, exn1, exz1, exo1, exs2, exn2, exz2, exo2, exs3, exn3, exz3, exo3, exs4, exn4, exz4, exo4, exs5, exn5, exz5, exo5, exs6, exn6, exz6, exo6, exs7, exn7, exz7, exo7, exs8, exn8, exz8, exo8, exs9, exn9, exz9, exo9, ex1, ex2, ex3, ex4, ex5, beqI, bneI, decide_true, Bool.true_and, decide_eq_true_eq, decide_eq_false_iff_not, ne_eq, Decidable.not_not]
  exact ⟨rfl, rfl, rfl, rfl, rfl, rfl⟩
def sOpd : Sig := ⟨Unit, fun _ => [], fun _ => True, fun _ => [.own 24 4 6 (fun i j => .int .i64 (opB i j))]⟩
theorem q42 (x : sOpd.α) : CallQ Try.prog E0 42 (sOpd.arg x) (sOpd.res x) := by
  refine bare_tight E0_ok TF TF_ok V5 V5_ok runs [] [] [] [] [] [] (fuel := 3) ?_
  refine of_red (q := True ∧ (6 : Nat) = (6 : Nat) ∧ True ∧ True ∧ (6 : Nat) = (6 : Nat) ∧ ∀ (i : Nat), i < (6 : Nat) → (((True ∧ (if i = (5 : Nat) then (260 : Int) else if i = (4 : Nat) then (220 : Int) else if i = (3 : Nat) then (260 : Int) else if i = (2 : Nat) then (260 : Int) else if i = (1 : Nat) then (260 : Int) else if i = (0 : Nat) then (260 : Int) else (0 : Int)) = opB i (nat_lit 0)) ∧ (if i = (5 : Nat) then (90 : Int) else if i = (4 : Nat) then (180 : Int) else if i = (3 : Nat) then (180 : Int) else if i = (2 : Nat) then (180 : Int) else if i = (1 : Nat) then (180 : Int) else if i = (0 : Nat) then (180 : Int) else (0 : Int)) = opB i (nat_lit 1)) ∧ (if i = (5 : Nat) then (150 : Int) else if i = (4 : Nat) then (150 : Int) else if i = (3 : Nat) then (150 : Int) else if i = (2 : Nat) then (150 : Int) else if i = (1 : Nat) then (150 : Int) else if i = (0 : Nat) then (150 : Int) else (0 : Int)) = opB i (nat_lit 2)) ∧ (if i = (5 : Nat) then (950 : Int) else if i = (4 : Nat) then (950 : Int) else if i = (3 : Nat) then (950 : Int) else if i = (2 : Nat) then (950 : Int) else if i = (1 : Nat) then (950 : Int) else if i = (0 : Nat) then (950 : Int) else (0 : Int)) = opB i (nat_lit 3)) (by kernel_rfl) ?_
  simp only [true_and, and_true, inR, Prod.exists, Prod.forall, and_assoc, exists_and_left, exists_eq_left', exists_eq_left, forall_eq, exists_const, forall_const, loopN, loopM, fa2, fas, fas2, dup1, dup2, dup3, dup4, ite_true, exhs, exhn, exhz, exho, exs1, exn1, exz1, exo1, exs2, exn2, exz2, exo2, exs3, exn3, exz3, exo3, exs4, exn4, exz4, exo4, exs5, exn5, exz5, exo5, exs6, exn6, exz6, exo6, exs7, exn7, exz7, exo7, exs8, exn8, exz8, exo8, exs9, exn9, exz9, exo9, ex1, ex2, ex3, ex4, ex5, beqI, bneI, decide_true, Bool.true_and, decide_eq_true_eq, decide_eq_false_iff_not, ne_eq, Decidable.not_not]
  exact fun i hi => match i, hi with
  | 0, _ => ⟨rfl, rfl, rfl, rfl⟩
  | 1, _ => ⟨rfl, rfl, rfl, rfl⟩
  | 2, _ => ⟨rfl, rfl, rfl, rfl⟩
  | 3, _ => ⟨rfl, rfl, rfl, rfl⟩
  | 4, _ => ⟨rfl, rfl, rfl, rfl⟩
  | 5, _ => ⟨rfl, rfl, rfl, rfl⟩
  | i + 6, hi => absurd hi (by omega)
def TT : List (Nat × Sig) := (42, sOpd) :: (41, sBrs) :: (40, sRuK) :: TF
theorem TT_ok : SigsOk Try.prog E0 TT := ((TF_ok.cons (runs 40 (by kernel_rfl)) fun x _ => q40 x).cons (runs 41 (by kernel_rfl)) fun x _ => q41 x).cons (runs 42 (by kernel_rfl)) fun x _ => q42 x
end Go.Proofs.Ythcplmlkgaiggaa
