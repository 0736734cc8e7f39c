/- Contracts: the law's own book, and what it works out. -/
import Derived.Test.YthofpbnbjkdpaaaDoorCxH
set_option linter.unusedSimpArgs false
set_option linter.unusedVariables false
namespace Cm
def l3 (a b c : Int) : Nat → Int
  | 0 => a
  | 1 => b
  | 2 => c
  | _ => 0
/-- The law's own book. -/
def own : Book := ⟨3, l3 20 100 0, 3, l3 0 0 2, l3 2 1 1, l3 60 50 40, 3, l3 2 1 1, fun _ => 3, fun s => match s with | 0 => l3 50 0 0 | 1 => l3 50 0 0 | _ => l3 10 0 0⟩
theorem own_ask : askE own 2 = 0 := by rfl
theorem own_opn : opn own 2 = own := if_pos own_ask
theorem own_clear : ∀ i, i < 3 → clear own 2 i = l3 30 0 30 i
  | 0, _ => by rfl
  | 1, _ => by rfl
  | 2, _ => by rfl
theorem own_rnd : ∀ i, i < 3 → rnd own 2 i = l3 1 1 2 i
  | 0, _ => by rfl
  | 1, _ => by rfl
  | 2, _ => by rfl
theorem own_wf : own.wf := ⟨by decide, by decide, by decide, fun _ _ => by show (3 : Nat) < _; decide⟩
theorem own_good : Good own := good (by rfl)
end Cm
namespace Go.Proofs.YthofpbnbjkdpaaaDoor
open Go Go.Sx Cm
set_option maxRecDepth 100000

def sOwn : Sig := ⟨Unit, fun _ => [], fun _ => True, fun _ => [.v (bookTV own)]⟩
theorem q38 (x : sOwn.α) (h : sOwn.pre x) : CallQ Tryd.prog E0 38 (sOwn.arg x) (sOwn.res x) := by
  refine bare_with E0_ok TH TH_ok runs [] [] (fuel := 6) ?_
  refine of_red (q := True ∧ ((True ∧ True ∧ True ∧ (3 : Nat) = own.nc ∧ ∀ (i : Nat), i < (3 : Nat) → True ∧ (if i = (2 : Nat) then (0 : Int) else if i = (1 : Nat) then (100 : Int) else if i = (0 : Nat) then (20 : Int) else (0 : Int)) = own.cash i) ∧ True ∧ True ∧ (3 : Nat) = own.nd ∧ ∀ (i : Nat), i < (3 : Nat) → ((True ∧ (if i = (2 : Nat) then (2 : Int) else if i = (1 : Nat) then (0 : Int) else if i = (0 : Nat) then (0 : Int) else (0 : Int)) = own.frm i) ∧ (if i = (2 : Nat) then (1 : Int) else if i = (1 : Nat) then (1 : Int) else if i = (0 : Nat) then (2 : Int) else (0 : Int)) = own.to i) ∧ (if i = (2 : Nat) then (40 : Int) else if i = (1 : Nat) then (50 : Int) else if i = (0 : Nat) then (60 : Int) else (0 : Int)) = own.due i) ∧ True ∧ True ∧ (3 : Nat) = own.ns ∧ ∀ (i : Nat), i < (3 : Nat) → (True ∧ (if i = (2 : Nat) then (1 : Int) else if i = (1 : Nat) then (1 : Int) else if i = (0 : Nat) then (2 : Int) else (0 : Int)) = own.price i) ∧ fitP (mixC (i = (2 : Nat)) (((2 : Nat), fun (j : Nat) => if j = nat_lit 0 + (1 : Nat) then ((1 : Nat), fun (x : Nat) => CV.vs (1 : Nat) (3 : Nat) fun (i' j : Nat) => mixC (i' = (2 : Nat)) (((1 : Nat), fun (x : Nat) => CV.int IntKind.i64 (0 : Int)).snd j) (mixC (i' = (1 : Nat)) (((1 : Nat), fun (x : Nat) => CV.int IntKind.i64 (0 : Int)).snd j) (mixC (i' = (0 : Nat)) (((1 : Nat), fun (x : Nat) => CV.int IntKind.i64 (10 : Int)).snd j) ([CV.int IntKind.i64 (0 : Int)].getD j CV.any)))).snd (0 : Nat) else if j < (0 : Nat) + ((1 : Nat), fun (x : Nat) => CV.int IntKind.i64 (1 : Int)).fst then ((1 : Nat), fun (x : Nat) => CV.int IntKind.i64 (1 : Int)).snd (j - (0 : Nat)) else [CV.int IntKind.i64 (0 : Int), CV.nils].getD j CV.any).snd (nat_lit 1)) (mixC (i = (1 : Nat)) (((2 : Nat), fun (j : Nat) => if j = nat_lit 0 + (1 : Nat) then ((1 : Nat), fun (x : Nat) => CV.vs (1 : Nat) (3 : Nat) fun (i' j : Nat) => mixC (i' = (2 : Nat)) (((1 : Nat), fun (x : Nat) => CV.int IntKind.i64 (0 : Int)).snd j) (mixC (i' = (1 : Nat)) (((1 : Nat), fun (x : Nat) => CV.int IntKind.i64 (0 : Int)).snd j) (mixC (i' = (0 : Nat)) (((1 : Nat), fun (x : Nat) => CV.int IntKind.i64 (50 : Int)).snd j) ([CV.int IntKind.i64 (0 : Int)].getD j CV.any)))).snd (0 : Nat) else if j < (0 : Nat) + ((1 : Nat), fun (x : Nat) => CV.int IntKind.i64 (1 : Int)).fst then ((1 : Nat), fun (x : Nat) => CV.int IntKind.i64 (1 : Int)).snd (j - (0 : Nat)) else [CV.int IntKind.i64 (0 : Int), CV.nils].getD j CV.any).snd (nat_lit 1)) (if i = (0 : Nat) then CV.vs (1 : Nat) (3 : Nat) fun (i' j : Nat) => mixC (i' = (2 : Nat)) (((1 : Nat), fun (x : Nat) => CV.int IntKind.i64 (0 : Int)).snd j) (mixC (i' = (1 : Nat)) (((1 : Nat), fun (x : Nat) => CV.int IntKind.i64 (0 : Int)).snd j) (mixC (i' = (0 : Nat)) (((1 : Nat), fun (x : Nat) => CV.int IntKind.i64 (50 : Int)).snd j) ([CV.int IntKind.i64 (0 : Int)].getD j CV.any))) else [CV.int IntKind.i64 (0 : Int), CV.nils].getD (nat_lit 1) CV.any))) ([CV.int IntKind.i64 (own.price i), CV.vs (1 : Nat) (own.nb i) fun (i_1 x : Nat) => CV.int IntKind.i64 (own.bar i i_1)].getD (nat_lit 1) CV.any)) (by kernel_rfl) ?_
  simp only [true_and, and_true, inR, Prod.exists, Prod.forall, and_assoc, exists_and_left, exists_eq_left', exists_eq_left, forall_eq, exists_const, forall_const, loopN, loopM, fa2, fas, fas2, dup1, dup2, dup3, dup4, ite_true, exhs, exhn, exhz, exho, exs1, exn1, exz1, exo1, exs2, exn2, exz2, exo2, exs3, exn3, exz3, exo3, exs4, exn4, exz4, exo4, exs5, exn5, exz5, exo5, exs6, exn6, exz6, exo6, exs7, exn7, exz7, exo7, exs8, exn8, exz8, exo8, exs9, exn9, exz9, exo9, ex1, ex2, ex3, ex4, ex5, beqI, bneI, decide_true, Bool.true_and, decide_eq_true_eq, decide_eq_false_iff_not, ne_eq, Decidable.not_not]
  refine ⟨rfl, fun i hi => ?_, rfl, fun i hi => ?_, rfl, fun i hi => ?_⟩
  · match i, hi with
    | 0, _ => rfl
    | 1, _ => rfl
    | 2, _ => rfl
  · match i, hi with
    | 0, _ => exact ⟨rfl, rfl, rfl⟩
    | 1, _ => exact ⟨rfl, rfl, rfl⟩
    | 2, _ => exact ⟨rfl, rfl, rfl⟩
  · match i, hi with
    | 0, _ => exact ⟨rfl, chk_iff.2 rfl, rfl, fun j hj => match j, hj with | 0, _ => ⟨trivial, rfl⟩ | 1, _ => ⟨trivial, rfl⟩ | 2, _ => ⟨trivial, rfl⟩⟩
    | 1, _ => exact ⟨rfl, chk_iff.2 rfl, rfl, fun j hj => match j, hj with | 0, _ => ⟨trivial, rfl⟩ | 1, _ => ⟨trivial, rfl⟩ | 2, _ => ⟨trivial, rfl⟩⟩
    | 2, _ => exact ⟨rfl, chk_iff.2 rfl, rfl, fun j hj => match j, hj with | 0, _ => ⟨trivial, rfl⟩ | 1, _ => ⟨trivial, rfl⟩ | 2, _ => ⟨trivial, rfl⟩⟩

def sOpenO : Sig := ⟨Unit, fun _ => [bookTV own, intC 2], fun _ => True, fun _ => [.v (bookTV own), .v (intC 0)]⟩
theorem q39o (x : sOpenO.α) (h : sOpenO.pre x) : CallQ Tryd.prog E0 39 (sOpenO.arg x) (sOpenO.res x) := by
  have := q39 (own, 2) own_wf
  simp only [sOpen, own_opn, own_ask] at this
  exact this
theorem paid_eq {n : Nat} {f g : Nat → Int} (h : ∀ i, i < n → f i = g i) : paidTV n f = paidTV n g := by
  unfold paidTV
  congr 1
  funext j
  congr 1
  exact ifc (h j)
def sSetO : Sig := ⟨Unit, fun _ => [bookTV own, intC 2], fun _ => True, fun _ => [.v (paidTV 3 (l3 30 0 30)), .v (paidTV 3 (l3 1 1 2))]⟩
theorem q40o (x : sSetO.α) (h : sSetO.pre x) : CallQ Tryd.prog E0 40 (sSetO.arg x) (sSetO.res x) := by
  have := q40 (own, 2) ⟨own_good, by decide⟩
  have e1 : paidTV own.nd (clear own 2) = paidTV 3 (l3 30 0 30) := paid_eq own_clear
  have e2 : paidTV own.nd (rnd own 2) = paidTV 3 (l3 1 1 2) := paid_eq own_rnd
  simp only [sSet, e1, e2] at this
  exact this

def TJ0 : List (Nat × Sig) := (40, sSetO) :: (39, sOpenO) :: TH
theorem TJ0_ok : SigsOk Tryd.prog E0 TJ0 := (TH_ok.cons (runs 39 (by kernel_rfl)) q39o).cons (runs 40 (by kernel_rfl)) q40o

end Go.Proofs.YthofpbnbjkdpaaaDoor
