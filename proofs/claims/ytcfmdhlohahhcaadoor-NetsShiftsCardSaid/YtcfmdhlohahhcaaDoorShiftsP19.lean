/- Texts for the law of the last part, part 19. -/
import Derived.Test.YtcfmdhlohahhcaaDoorShiftsP18
import Derived.ChangeArms
import Derived.ChangeShapes
import Derived.OpenShut
import Derived.Carry
import Derived.Handed
import Derived.LaidMore
set_option linter.unusedSimpArgs false
set_option linter.unusedVariables false
set_option linter.unusedSimpArgs false
set_option linter.unusedVariables false
namespace Go.Proofs.YtcfmdhlohahhcaaDoor
open Go Go.Sx Nm
set_option maxRecDepth 100000
def one (args : List TV) (res : List RV) : Sig := ⟨Unit, fun _ => args, fun _ => True, fun _ => res⟩
def s28 : Sig := one [torn3, lists [[0, 1, 4], [1, 2]]] [.v (intC 42), .v (.c (.bool true)), .v (intC 0)]
def s32 : Sig := one [torn4] [.v (intC 52), .v (intC 0)]
def s34 : Sig := one [torn3] [.v (lists [[2, 1, 0], [1, 4]]), .v (intC 0)]
def TBB : List (Nat × Sig) := [(28, s28), (32, s32), (34, s34), (26, sShift), (24, sCanF), (22, sApart), (19, sFouls), (15, sLies), (46, sTwo), (41, sTwo)]
theorem TBB_ok : SigsOk Tryd.prog E0 TBB := (((((((((SigsOk.nil.cons (runs 41 (by kernel_rfl)) fun x _ => q41 x).cons (runs 46 (by kernel_rfl)) fun x _ => q46 x).cons (runs 15 (by kernel_rfl)) q15).cons (runs 19 (by kernel_rfl)) q19).cons (runs 22 (by kernel_rfl)) q22).cons (runs 24 (by kernel_rfl)) q24).cons (runs 26 (by kernel_rfl)) q26).cons (runs 34 (by kernel_rfl)) fun _ _ => t34).cons (runs 32 (by kernel_rfl)) fun _ _ => t32).cons (runs 28 (by kernel_rfl)) fun _ _ => t28
def flX (l : List (List Int)) : Fleet := ⟨3, fun _ j => if j = 0 then 10 else 20, 3, fun _ _ => 0, 5, 2, fun i j => (l.getD i []).getD j 0⟩
def fl0 : Fleet := flX [[0, 0, 100, 1, 0, 3, 0, 0, 0, 0], [25, 0, 100, 1, 1, 3, 0, 0, 0, 0]]
def fl1 : Fleet := flX [[0, 0, 100, 1, 0, 3, 0, 0, 0, 0], [50, 0, 100, 1, 1, 3, -4, 0, 0, 0]]
def tr0 (l : List Int) : Truth := ⟨3, fun i => l.getD i 0, 3, fun _ => 0, 2, fun _ => 0, 2, fun _ => 0⟩
theorem all3 {P : Nat → Prop} (h0 : P 0) (h1 : P 1) (h2 : P 2) : ∀ i, i < 3 → P i
  | 0, _ => h0
  | 1, _ => h1
  | 2, _ => h2
theorem all2 {P : Nat → Prop} (h0 : P 0) (h1 : P 1) : ∀ i, i < 2 → P i
  | 0, _ => h0
  | 1, _ => h1
theorem all4 {P : Nat → Prop} (h0 : P 0) (h1 : P 1) (h2 : P 2) (h3 : P 3) : ∀ i, i < 3 + 1 → P i
  | 0, _ => h0
  | 1, _ => h1
  | 2, _ => h2
  | 3, _ => h3
theorem q21 : CallQ Tryd.prog E0 21 [] [.v (.c (.bool true))] := by
  refine bare_say E0_ok TBB TBB_ok [] EvensOk.nil runs { live := true } (fuel := 8) ?_
  refine of_red (q := ∃ (x : Int × Int), ((True ∧ (10 : Int) = x.fst) ∧ (True ∧ (20 : Int) = x.snd) ∧ True) ∧ True ∧ ∃ (x_1 : Int × Int), ((True ∧ (10 : Int) = x_1.fst) ∧ (True ∧ (20 : Int) = x_1.snd) ∧ True) ∧ True ∧ ∃ (x_2 : Int × Int), ((True ∧ (10 : Int) = x_2.fst) ∧ (True ∧ (20 : Int) = x_2.snd) ∧ True) ∧ True ∧ (0 : Int) ≤ (3 : Int) ∧ (3 : Int) = (3 : Int) ∧ (↑(16 : Nat) : Int) * (3 : Int) ≤ (140737488355328 : Int) ∧ (3 : Int) < (4611686018427387904 : Int) ∧ ∃ (x_3 : Int × Int), ((True ∧ (25 : Int) = x_3.fst) ∧ (True ∧ (0 : Int) = x_3.snd) ∧ True) ∧ True ∧ ∃ (x_4 : LAsk), ((True ∧ (((True ∧ True ∧ True ∧ (3 : Nat) = x_4.x.hE ∧ ∀ (i : Nat), i < (3 : Nat) → (True ∧ (if i = (2 : Nat) then x_2.fst else if i = (1 : Nat) then x_1.fst else if i = (0 : Nat) then x.fst else (0 : Int)) = x_4.x.e i (nat_lit 0)) ∧ (if i = (2 : Nat) then x_2.snd else if i = (1 : Nat) then x_1.snd else if i = (0 : Nat) then x.snd else (0 : Int)) = x_4.x.e i (nat_lit 1)) ∧ True ∧ True ∧ (3 : Nat) = x_4.x.hN ∧ ∀ (i : Nat), i < (3 : Nat) → (True ∧ (0 : Int) = x_4.x.n i (nat_lit 0)) ∧ (0 : Int) = x_4.x.n i (nat_lit 1)) ∧ True ∧ (5 : Int) = x_4.x.gap) ∧ True ∧ True ∧ (2 : Nat) = x_4.x.k ∧ ∀ (i : Nat), i < (2 : Nat) → (((((((((True ∧ (if i = (1 : Nat) then x_3.fst else if i = (0 : Nat) then (0 : Int) else (0 : Int)) = x_4.x.net i (nat_lit 0)) ∧ (if i = (1 : Nat) then x_3.snd else if i = (0 : Nat) then (0 : Int) else (0 : Int)) = x_4.x.net i (nat_lit 1)) ∧ (if i = (1 : Nat) then (100 : Int) else if i = (0 : Nat) then (100 : Int) else (0 : Int)) = x_4.x.net i (nat_lit 2)) ∧ (if i = (1 : Nat) then (1 : Int) else if i = (0 : Nat) then (1 : Int) else (0 : Int)) = x_4.x.net i (nat_lit 3)) ∧ (if i = (1 : Nat) then (1 : Int) else if i = (0 : Nat) then (0 : Int) else (0 : Int)) = x_4.x.net i (nat_lit 4)) ∧ (if i = (1 : Nat) then (3 : Int) else if i = (0 : Nat) then (3 : Int) else (0 : Int)) = x_4.x.net i (nat_lit 5)) ∧ (if i = (1 : Nat) then (0 : Int) else if i = (0 : Nat) then (0 : Int) else (0 : Int)) = x_4.x.net i (nat_lit 6)) ∧ (if i = (1 : Nat) then (0 : Int) else if i = (0 : Nat) then (0 : Int) else (0 : Int)) = x_4.x.net i (nat_lit 7)) ∧ (if i = (1 : Nat) then (0 : Int) else if i = (0 : Nat) then (0 : Int) else (0 : Int)) = x_4.x.net i (nat_lit 8)) ∧ (if i = (1 : Nat) then (0 : Int) else if i = (0 : Nat) then (0 : Int) else (0 : Int)) = x_4.x.net i (nat_lit 9)) ∧ (True ∧ (((True ∧ True ∧ True ∧ (3 : Nat) = x_4.t.nE ∧ ∀ (i : Nat), i < (3 : Nat) → True ∧ (if i = (2 : Nat) then (14 : Int) else if i = (1 : Nat) then (12 : Int) else if i = (0 : Nat) then (10 : Int) else (0 : Int)) = x_4.t.e i) ∧ True ∧ True ∧ (3 : Nat) = x_4.t.nN ∧ ∀ (i : Nat), i < (3 : Nat) → True ∧ (if i = (2 : Nat) then (0 : Int) else if i = (1 : Nat) then (0 : Int) else if i = (0 : Nat) then (0 : Int) else (0 : Int)) = x_4.t.n i) ∧ True ∧ True ∧ (2 : Nat) = x_4.t.nSE ∧ ∀ (i : Nat), i < (2 : Nat) → True ∧ (if i = (1 : Nat) then (0 : Int) else if i = (0 : Nat) then (0 : Int) else (0 : Int)) = x_4.t.se i) ∧ True ∧ True ∧ (2 : Nat) = x_4.t.nSN ∧ ∀ (i : Nat), i < (2 : Nat) → True ∧ (if i = (1 : Nat) then (0 : Int) else if i = (0 : Nat) then (0 : Int) else (0 : Int)) = x_4.t.sn i) ∧ (True ∧ (1 : Int) = x_4.k) ∧ (True ∧ (3 : Int) = x_4.h) ∧ True) ∧ ((x_4.x.hE < (4611686018427387904 : Nat) ∧ x_4.x.hN < (4611686018427387904 : Nat) ∧ x_4.x.k < (4611686018427387904 : Nat)) ∧ x_4.t.nE < (4611686018427387904 : Nat) ∧ x_4.t.nN < (4611686018427387904 : Nat) ∧ x_4.t.nSE < (4611686018427387904 : Nat) ∧ x_4.t.nSN < (4611686018427387904 : Nat)) ∧ ∃ (x : Int × Int), ((True ∧ (10 : Int) = x.fst) ∧ (True ∧ (20 : Int) = x.snd) ∧ True) ∧ True ∧ ∃ (x_5 : Int × Int), ((True ∧ (10 : Int) = x_5.fst) ∧ (True ∧ (20 : Int) = x_5.snd) ∧ True) ∧ True ∧ ∃ (x_6 : Int × Int), ((True ∧ (10 : Int) = x_6.fst) ∧ (True ∧ (20 : Int) = x_6.snd) ∧ True) ∧ True ∧ (0 : Int) ≤ (3 : Int) ∧ (3 : Int) = (3 : Int) ∧ (↑(16 : Nat) : Int) * (3 : Int) ≤ (140737488355328 : Int) ∧ (3 : Int) < (4611686018427387904 : Int) ∧ ∃ (x_7 : Int × Int), ((True ∧ (25 : Int) = x_7.fst) ∧ (True ∧ (0 : Int) = x_7.snd) ∧ True) ∧ True ∧ ∃ (x_8 : Fleet × Truth), ((True ∧ (((True ∧ True ∧ True ∧ (3 : Nat) = x_8.fst.hE ∧ ∀ (i : Nat), i < (3 : Nat) → (True ∧ (if i = (2 : Nat) then x_6.fst else if i = (1 : Nat) then x_5.fst else if i = (0 : Nat) then x.fst else (0 : Int)) = x_8.fst.e i (nat_lit 0)) ∧ (if i = (2 : Nat) then x_6.snd else if i = (1 : Nat) then x_5.snd else if i = (0 : Nat) then x.snd else (0 : Int)) = x_8.fst.e i (nat_lit 1)) ∧ True ∧ True ∧ (3 : Nat) = x_8.fst.hN ∧ ∀ (i : Nat), i < (3 : Nat) → (True ∧ (0 : Int) = x_8.fst.n i (nat_lit 0)) ∧ (0 : Int) = x_8.fst.n i (nat_lit 1)) ∧ True ∧ (5 : Int) = x_8.fst.gap) ∧ True ∧ True ∧ (2 : Nat) = x_8.fst.k ∧ ∀ (i : Nat), i < (2 : Nat) → (((((((((True ∧ (if i = (1 : Nat) then x_7.fst else if i = (0 : Nat) then (0 : Int) else (0 : Int)) = x_8.fst.net i (nat_lit 0)) ∧ (if i = (1 : Nat) then x_7.snd else if i = (0 : Nat) then (0 : Int) else (0 : Int)) = x_8.fst.net i (nat_lit 1)) ∧ (if i = (1 : Nat) then (100 : Int) else if i = (0 : Nat) then (100 : Int) else (0 : Int)) = x_8.fst.net i (nat_lit 2)) ∧ (if i = (1 : Nat) then (1 : Int) else if i = (0 : Nat) then (1 : Int) else (0 : Int)) = x_8.fst.net i (nat_lit 3)) ∧ (if i = (1 : Nat) then (1 : Int) else if i = (0 : Nat) then (0 : Int) else (0 : Int)) = x_8.fst.net i (nat_lit 4)) ∧ (if i = (1 : Nat) then (3 : Int) else if i = (0 : Nat) then (3 : Int) else (0 : Int)) = x_8.fst.net i (nat_lit 5)) ∧ (if i = (1 : Nat) then (0 : Int) else if i = (0 : Nat) then (0 : Int) else (0 : Int)) = x_8.fst.net i (nat_lit 6)) ∧ (if i = (1 : Nat) then (0 : Int) else if i = (0 : Nat) then (0 : Int) else (0 : Int)) = x_8.fst.net i (nat_lit 7)) ∧ (if i = (1 : Nat) then (0 : Int) else if i = (0 : Nat) then (0 : Int) else (0 : Int)) = x_8.fst.net i (nat_lit 8)) ∧ (if i = (1 : Nat) then (0 : Int) else if i = (0 : Nat) then (0 : Int) else (0 : Int)) = x_8.fst.net i (nat_lit 9)) ∧ (True ∧ (((True ∧ True ∧ True ∧ (3 : Nat) = x_8.snd.nE ∧ ∀ (i : Nat), i < (3 : Nat) → True ∧ (if i = (2 : Nat) then (10 : Int) else if i = (1 : Nat) then (10 : Int) else if i = (0 : Nat) then (20 : Int) else (0 : Int)) = x_8.snd.e i) ∧ True ∧ True ∧ (3 : Nat) = x_8.snd.nN ∧ ∀ (i : Nat), i < (3 : Nat) → True ∧ (if i = (2 : Nat) then (0 : Int) else if i = (1 : Nat) then (0 : Int) else if i = (0 : Nat) then (0 : Int) else (0 : Int)) = x_8.snd.n i) ∧ True ∧ True ∧ (2 : Nat) = x_8.snd.nSE ∧ ∀ (i : Nat), i < (2 : Nat) → True ∧ (if i = (1 : Nat) then (0 : Int) else if i = (0 : Nat) then (0 : Int) else (0 : Int)) = x_8.snd.se i) ∧ True ∧ True ∧ (2 : Nat) = x_8.snd.nSN ∧ ∀ (i : Nat), i < (2 : Nat) → True ∧ (if i = (1 : Nat) then (0 : Int) else if i = (0 : Nat) then (0 : Int) else (0 : Int)) = x_8.snd.sn i) ∧ True) ∧ ((x_8.fst.hE < (4611686018427387904 : Nat) ∧ x_8.fst.hN < (4611686018427387904 : Nat) ∧ x_8.fst.k < (4611686018427387904 : Nat)) ∧ x_8.snd.nE < (4611686018427387904 : Nat) ∧ x_8.snd.nN < (4611686018427387904 : Nat) ∧ x_8.snd.nSE < (4611686018427387904 : Nat) ∧ x_8.snd.nSN < (4611686018427387904 : Nat)) ∧ ∃ (x : Int × Int), ((True ∧ (10 : Int) = x.fst) ∧ (True ∧ (20 : Int) = x.snd) ∧ True) ∧ True ∧ ∃ (x_9 : Int × Int), ((True ∧ (10 : Int) = x_9.fst) ∧ (True ∧ (20 : Int) = x_9.snd) ∧ True) ∧ True ∧ ∃ (x_10 : Int × Int), ((True ∧ (10 : Int) = x_10.fst) ∧ (True ∧ (20 : Int) = x_10.snd) ∧ True) ∧ True ∧ (0 : Int) ≤ (3 : Int) ∧ (3 : Int) = (3 : Int) ∧ (↑(16 : Nat) : Int) * (3 : Int) ≤ (140737488355328 : Int) ∧ (3 : Int) < (4611686018427387904 : Int) ∧ ∃ (x_11 : Int × Int), ((True ∧ (25 : Int) = x_11.fst) ∧ (True ∧ (0 : Int) = x_11.snd) ∧ True) ∧ True ∧ (0 : Int) ≤ (1 : Int) ∧ (1 : Int) < (↑(2 : Nat) : Int) ∧ ∃ (x_12 : Int × Int), ((True ∧ (-4 : Int) = x_12.fst) ∧ (True ∧ (0 : Int) = x_12.snd) ∧ True) ∧ True ∧ (0 : Int) ≤ (1 : Int) ∧ (1 : Int) < (↑(2 : Nat) : Int) ∧ ∃ (x_13 : QAsk), ((True ∧ (((True ∧ True ∧ True ∧ (3 : Nat) = x_13.x.hE ∧ ∀ (i : Nat), i < (3 : Nat) → (True ∧ (if i = (2 : Nat) then x_10.fst else if i = (1 : Nat) then x_9.fst else if i = (0 : Nat) then x.fst else (0 : Int)) = x_13.x.e i (nat_lit 0)) ∧ (if i = (2 : Nat) then x_10.snd else if i = (1 : Nat) then x_9.snd else if i = (0 : Nat) then x.snd else (0 : Int)) = x_13.x.e i (nat_lit 1)) ∧ True ∧ True ∧ (3 : Nat) = x_13.x.hN ∧ ∀ (i : Nat), i < (3 : Nat) → (True ∧ (0 : Int) = x_13.x.n i (nat_lit 0)) ∧ (0 : Int) = x_13.x.n i (nat_lit 1)) ∧ True ∧ (5 : Int) = x_13.x.gap) ∧ True ∧ True ∧ (2 : Nat) = x_13.x.k ∧ ∀ (i : Nat), i < (2 : Nat) → (((((((((True ∧ (if i = (1 : Nat) then (50 : Int) else if i = (1 : Nat) then (50 : Int) else if i = (1 : Nat) then x_11.fst else if i = (0 : Nat) then (0 : Int) else (0 : Int)) = x_13.x.net i (nat_lit 0)) ∧ (if i = (1 : Nat) then x_11.snd else if i = (1 : Nat) then x_11.snd else if i = (1 : Nat) then x_11.snd else if i = (0 : Nat) then (0 : Int) else (0 : Int)) = x_13.x.net i (nat_lit 1)) ∧ (if i = (1 : Nat) then (100 : Int) else if i = (1 : Nat) then (100 : Int) else if i = (1 : Nat) then (100 : Int) else if i = (0 : Nat) then (100 : Int) else (0 : Int)) = x_13.x.net i (nat_lit 2)) ∧ (if i = (1 : Nat) then (1 : Int) else if i = (1 : Nat) then (1 : Int) else if i = (1 : Nat) then (1 : Int) else if i = (0 : Nat) then (1 : Int) else (0 : Int)) = x_13.x.net i (nat_lit 3)) ∧ (if i = (1 : Nat) then (1 : Int) else if i = (1 : Nat) then (1 : Int) else if i = (1 : Nat) then (1 : Int) else if i = (0 : Nat) then (0 : Int) else (0 : Int)) = x_13.x.net i (nat_lit 4)) ∧ (if i = (1 : Nat) then (3 : Int) else if i = (1 : Nat) then (3 : Int) else if i = (1 : Nat) then (3 : Int) else if i = (0 : Nat) then (3 : Int) else (0 : Int)) = x_13.x.net i (nat_lit 5)) ∧ (if i = (1 : Nat) then x_12.fst else if i = (1 : Nat) then (0 : Int) else if i = (1 : Nat) then (0 : Int) else if i = (0 : Nat) then (0 : Int) else (0 : Int)) = x_13.x.net i (nat_lit 6)) ∧ (if i = (1 : Nat) then x_12.snd else if i = (1 : Nat) then (0 : Int) else if i = (1 : Nat) then (0 : Int) else if i = (0 : Nat) then (0 : Int) else (0 : Int)) = x_13.x.net i (nat_lit 7)) ∧ (if i = (1 : Nat) then (0 : Int) else if i = (1 : Nat) then (0 : Int) else if i = (1 : Nat) then (0 : Int) else if i = (0 : Nat) then (0 : Int) else (0 : Int)) = x_13.x.net i (nat_lit 8)) ∧ (if i = (1 : Nat) then (0 : Int) else if i = (1 : Nat) then (0 : Int) else if i = (1 : Nat) then (0 : Int) else if i = (0 : Nat) then (0 : Int) else (0 : Int)) = x_13.x.net i (nat_lit 9)) ∧ (True ∧ (0 : Int) = x_13.i) ∧ (True ∧ (1 : Int) = x_13.k) ∧ (True ∧ (3 : Int) = x_13.h) ∧ True) ∧ (x_13.x.hE < (4611686018427387904 : Nat) ∧ x_13.x.hN < (4611686018427387904 : Nat) ∧ x_13.x.k < (4611686018427387904 : Nat)) ∧ ∃ (x : Int × Int), ((True ∧ (10 : Int) = x.fst) ∧ (True ∧ (20 : Int) = x.snd) ∧ True) ∧ True ∧ ∃ (x_14 : Int × Int), ((True ∧ (10 : Int) = x_14.fst) ∧ (True ∧ (20 : Int) = x_14.snd) ∧ True) ∧ True ∧ ∃ (x_15 : Int × Int), ((True ∧ (10 : Int) = x_15.fst) ∧ (True ∧ (20 : Int) = x_15.snd) ∧ True) ∧ True ∧ (0 : Int) ≤ (3 : Int) ∧ (3 : Int) = (3 : Int) ∧ (↑(16 : Nat) : Int) * (3 : Int) ≤ (140737488355328 : Int) ∧ (3 : Int) < (4611686018427387904 : Int) ∧ ∃ (x_16 : Int × Int), ((True ∧ (25 : Int) = x_16.fst) ∧ (True ∧ (0 : Int) = x_16.snd) ∧ True) ∧ True ∧ ∃ (x_17 : Fleet), ((True ∧ (((True ∧ True ∧ True ∧ (3 : Nat) = x_17.hE ∧ ∀ (i : Nat), i < (3 : Nat) → (True ∧ (if i = (2 : Nat) then x_15.fst else if i = (1 : Nat) then x_14.fst else if i = (0 : Nat) then x.fst else (0 : Int)) = x_17.e i (nat_lit 0)) ∧ (if i = (2 : Nat) then x_15.snd else if i = (1 : Nat) then x_14.snd else if i = (0 : Nat) then x.snd else (0 : Int)) = x_17.e i (nat_lit 1)) ∧ True ∧ True ∧ (3 : Nat) = x_17.hN ∧ ∀ (i : Nat), i < (3 : Nat) → (True ∧ (0 : Int) = x_17.n i (nat_lit 0)) ∧ (0 : Int) = x_17.n i (nat_lit 1)) ∧ True ∧ (5 : Int) = x_17.gap) ∧ True ∧ True ∧ (2 : Nat) = x_17.k ∧ ∀ (i : Nat), i < (2 : Nat) → (((((((((True ∧ (if i = (1 : Nat) then x_16.fst else if i = (0 : Nat) then (0 : Int) else (0 : Int)) = x_17.net i (nat_lit 0)) ∧ (if i = (1 : Nat) then x_16.snd else if i = (0 : Nat) then (0 : Int) else (0 : Int)) = x_17.net i (nat_lit 1)) ∧ (if i = (1 : Nat) then (100 : Int) else if i = (0 : Nat) then (100 : Int) else (0 : Int)) = x_17.net i (nat_lit 2)) ∧ (if i = (1 : Nat) then (1 : Int) else if i = (0 : Nat) then (1 : Int) else (0 : Int)) = x_17.net i (nat_lit 3)) ∧ (if i = (1 : Nat) then (1 : Int) else if i = (0 : Nat) then (0 : Int) else (0 : Int)) = x_17.net i (nat_lit 4)) ∧ (if i = (1 : Nat) then (3 : Int) else if i = (0 : Nat) then (3 : Int) else (0 : Int)) = x_17.net i (nat_lit 5)) ∧ (if i = (1 : Nat) then (0 : Int) else if i = (0 : Nat) then (0 : Int) else (0 : Int)) = x_17.net i (nat_lit 6)) ∧ (if i = (1 : Nat) then (0 : Int) else if i = (0 : Nat) then (0 : Int) else (0 : Int)) = x_17.net i (nat_lit 7)) ∧ (if i = (1 : Nat) then (0 : Int) else if i = (0 : Nat) then (0 : Int) else (0 : Int)) = x_17.net i (nat_lit 8)) ∧ (if i = (1 : Nat) then (0 : Int) else if i = (0 : Nat) then (0 : Int) else (0 : Int)) = x_17.net i (nat_lit 9)) ∧ True) ∧ (x_17.hE < (4611686018427387904 : Nat) ∧ x_17.hN < (4611686018427387904 : Nat) ∧ x_17.k < (4611686018427387904 : Nat)) ∧ ∃ (x : Int × Int), ((True ∧ (10 : Int) = x.fst) ∧ (True ∧ (20 : Int) = x.snd) ∧ True) ∧ True ∧ ∃ (x_18 : Int × Int), ((True ∧ (10 : Int) = x_18.fst) ∧ (True ∧ (20 : Int) = x_18.snd) ∧ True) ∧ True ∧ ∃ (x_19 : Int × Int), ((True ∧ (10 : Int) = x_19.fst) ∧ (True ∧ (20 : Int) = x_19.snd) ∧ True) ∧ True ∧ (0 : Int) ≤ (3 : Int) ∧ (3 : Int) = (3 : Int) ∧ (↑(16 : Nat) : Int) * (3 : Int) ≤ (140737488355328 : Int) ∧ (3 : Int) < (4611686018427387904 : Int) ∧ ∃ (x_20 : Int × Int), ((True ∧ (25 : Int) = x_20.fst) ∧ (True ∧ (0 : Int) = x_20.snd) ∧ True) ∧ True ∧ ∃ (x_21 : Fleet × Int × Int), ((True ∧ (((True ∧ True ∧ True ∧ (3 : Nat) = x_21.fst.hE ∧ ∀ (i : Nat), i < (3 : Nat) → (True ∧ (if i = (2 : Nat) then x_19.fst else if i = (1 : Nat) then x_18.fst else if i = (0 : Nat) then x.fst else (0 : Int)) = x_21.fst.e i (nat_lit 0)) ∧ (if i = (2 : Nat) then x_19.snd else if i = (1 : Nat) then x_18.snd else if i = (0 : Nat) then x.snd else (0 : Int)) = x_21.fst.e i (nat_lit 1)) ∧ True ∧ True ∧ (3 : Nat) = x_21.fst.hN ∧ ∀ (i : Nat), i < (3 : Nat) → (True ∧ (0 : Int) = x_21.fst.n i (nat_lit 0)) ∧ (0 : Int) = x_21.fst.n i (nat_lit 1)) ∧ True ∧ (5 : Int) = x_21.fst.gap) ∧ True ∧ True ∧ (2 : Nat) = x_21.fst.k ∧ ∀ (i : Nat), i < (2 : Nat) → (((((((((True ∧ (if i = (1 : Nat) then x_20.fst else if i = (0 : Nat) then (0 : Int) else (0 : Int)) = x_21.fst.net i (nat_lit 0)) ∧ (if i = (1 : Nat) then x_20.snd else if i = (0 : Nat) then (0 : Int) else (0 : Int)) = x_21.fst.net i (nat_lit 1)) ∧ (if i = (1 : Nat) then (100 : Int) else if i = (0 : Nat) then (100 : Int) else (0 : Int)) = x_21.fst.net i (nat_lit 2)) ∧ (if i = (1 : Nat) then (1 : Int) else if i = (0 : Nat) then (1 : Int) else (0 : Int)) = x_21.fst.net i (nat_lit 3)) ∧ (if i = (1 : Nat) then (1 : Int) else if i = (0 : Nat) then (0 : Int) else (0 : Int)) = x_21.fst.net i (nat_lit 4)) ∧ (if i = (1 : Nat) then (3 : Int) else if i = (0 : Nat) then (3 : Int) else (0 : Int)) = x_21.fst.net i (nat_lit 5)) ∧ (if i = (1 : Nat) then (0 : Int) else if i = (0 : Nat) then (0 : Int) else (0 : Int)) = x_21.fst.net i (nat_lit 6)) ∧ (if i = (1 : Nat) then (0 : Int) else if i = (0 : Nat) then (0 : Int) else (0 : Int)) = x_21.fst.net i (nat_lit 7)) ∧ (if i = (1 : Nat) then (0 : Int) else if i = (0 : Nat) then (0 : Int) else (0 : Int)) = x_21.fst.net i (nat_lit 8)) ∧ (if i = (1 : Nat) then (0 : Int) else if i = (0 : Nat) then (0 : Int) else (0 : Int)) = x_21.fst.net i (nat_lit 9)) ∧ (True ∧ (1 : Int) = x_21.snd.fst) ∧ (True ∧ (100 : Int) = x_21.snd.snd) ∧ True) ∧ (x_21.fst.hE < (4611686018427387904 : Nat) ∧ x_21.fst.hN < (4611686018427387904 : Nat) ∧ x_21.fst.k < (4611686018427387904 : Nat)) ∧ ((liErr x_4.x x_4.t x_4.k x_4.h != (0 : Int)) = true → True ∧ true = false) ∧ ((liErr x_4.x x_4.t x_4.k x_4.h != (0 : Int)) = false → ((fouE x_8.fst x_8.snd != (0 : Int)) = true → True ∧ true = false) ∧ ((fouE x_8.fst x_8.snd != (0 : Int)) = false → ((aqE x_13 != (0 : Int)) = true → True ∧ true = false) ∧ ((aqE x_13 != (0 : Int)) = false → ((canE x_17 != (0 : Int)) = true → True ∧ true = false) ∧ ((canE x_17 != (0 : Int)) = false → ((shE x_21.fst x_21.snd.fst x_21.snd.snd != (0 : Int)) = true → True ∧ true = false) ∧ ((shE x_21.fst x_21.snd.fst x_21.snd.snd != (0 : Int)) = false → ∃ (x : Int × Int), ((True ∧ (51 : Int) = x.fst) ∧ (True ∧ (0 : Int) = x.snd) ∧ True) ∧ True ∧ ((!(liR x_4.x x_4.t x_4.k x_4.h (liP x_4.x x_4.t.e x_4.t.se (0 : Nat) x_4.k.toNat x_4.h) == x.fst && (liR x_4.x x_4.t x_4.k x_4.h (liP x_4.x x_4.t.n x_4.t.sn (1 : Nat) x_4.k.toNat x_4.h) == x.snd && true))) = true → True ∧ true = false) ∧ ((!(liR x_4.x x_4.t x_4.k x_4.h (liP x_4.x x_4.t.e x_4.t.se (0 : Nat) x_4.k.toNat x_4.h) == x.fst && (liR x_4.x x_4.t x_4.k x_4.h (liP x_4.x x_4.t.n x_4.t.sn (1 : Nat) x_4.k.toNat x_4.h) == x.snd && true))) = false → ((!(oH (fouO x_8.fst x_8.snd) == (1 : Int) && (oI (fouO x_8.fst x_8.snd) == (0 : Int) && (oK (fouO x_8.fst x_8.snd) == (1 : Int) && true)))) = true → True ∧ true = false) ∧ ((!(oH (fouO x_8.fst x_8.snd) == (1 : Int) && (oI (fouO x_8.fst x_8.snd) == (0 : Int) && (oK (fouO x_8.fst x_8.snd) == (1 : Int) && true)))) = false → ∃ (x : Int × Int), ((True ∧ (-40 : Int) = x.fst) ∧ (True ∧ (-22 : Int) = x.snd) ∧ True) ∧ True ∧ ((!(aqR x_13 (raLo (rE x_13.x x_13.i.toNat x_13.k.toNat x_13.h.toNat)) == x.fst && (aqR x_13 (raHi (rE x_13.x x_13.i.toNat x_13.k.toNat x_13.h.toNat)) == x.snd && true))) = true → True ∧ true = false) ∧ ((!(aqR x_13 (raLo (rE x_13.x x_13.i.toNat x_13.k.toNat x_13.h.toNat)) == x.fst && (aqR x_13 (raHi (rE x_13.x x_13.i.toNat x_13.k.toNat x_13.h.toNat)) == x.snd && true))) = false → ∃ (x : Int × Int), ((True ∧ (0 : Int) = x.fst) ∧ (True ∧ (0 : Int) = x.snd) ∧ True) ∧ True ∧ ((!(aqR x_13 (raLo (rN x_13.x x_13.i.toNat x_13.k.toNat x_13.h.toNat)) == x.fst && (aqR x_13 (raHi (rN x_13.x x_13.i.toNat x_13.k.toNat x_13.h.toNat)) == x.snd && true))) = true → True ∧ true = false) ∧ ((!(aqR x_13 (raLo (rN x_13.x x_13.i.toNat x_13.k.toNat x_13.h.toNat)) == x.fst && (aqR x_13 (raHi (rN x_13.x x_13.i.toNat x_13.k.toNat x_13.h.toNat)) == x.snd && true))) = false → ((!(oH (canO x_17) == oH (fouO x_8.fst x_8.snd) && (oI (canO x_17) == oI (fouO x_8.fst x_8.snd) && (oK (canO x_17) == oK (fouO x_8.fst x_8.snd) && true)))) = true → True ∧ true = false) ∧ ((!(oH (canO x_17) == oH (fouO x_8.fst x_8.snd) && (oI (canO x_17) == oI (fouO x_8.fst x_8.snd) && (oK (canO x_17) == oK (fouO x_8.fst x_8.snd) && true)))) = false → ((shV x_21.fst x_21.snd.fst x_21.snd.snd != (1 : Int)) = true → True ∧ true = false) ∧ ((shV x_21.fst x_21.snd.fst x_21.snd.snd != (1 : Int)) = false → ∃ (x : Unit), ((True ∧ ((((True ∧ True ∧ (3 : Int) = (3 : Int)) ∧ True ∧ (2 : Int) = (2 : Int)) ∧ True ∧ True ∧ (3 : Nat) = (3 : Nat) ∧ ∀ (i : Nat), i < (3 : Nat) → (True ∧ (if i = (2 : Nat) then (1 : Int) else if i = (1 : Nat) then (1 : Int) else if i = (0 : Nat) then (0 : Int) else (0 : Int)) = ([[(0 : Int), (1 : Int)], [(1 : Int), (2 : Int)], [(1 : Int), (4 : Int)]].getD i []).getD (nat_lit 0) (0 : Int)) ∧ (if i = (2 : Nat) then (4 : Int) else if i = (1 : Nat) then (2 : Int) else if i = (0 : Nat) then (1 : Int) else (0 : Int)) = ([[(0 : Int), (1 : Int)], [(1 : Int), (2 : Int)], [(1 : Int), (4 : Int)]].getD i []).getD (nat_lit 1) (0 : Int)) ∧ True ∧ (10 : Int) = (10 : Int)) ∧ True ∧ (3 : Int) = (3 : Int)) ∧ (True ∧ True ∧ (2 : Nat) = [[(0 : Int), (1 : Int), (4 : Int)], [(1 : Int), (2 : Int)]].length ∧ ∀ (i : Nat), i < (2 : Nat) → True ∧ fitP (mixC (i = (1 : Nat)) (((1 : Nat), fun (x : Nat) => CV.vs (1 : Nat) (2 : Nat) fun (i' j : Nat) => mixC (i' = (1 : Nat)) (((1 : Nat), fun (x : Nat) => CV.int IntKind.i64 (2 : Int)).snd j) (mixC (i' = (0 : Nat)) (((1 : Nat), fun (x : Nat) => CV.int IntKind.i64 (1 : Int)).snd j) ([CV.int IntKind.i64 (0 : Int)].getD j CV.any))).snd (nat_lit 0)) (if i = (0 : Nat) then CV.vs (1 : Nat) (3 : Nat) fun (i' j : Nat) => mixC (i' = (2 : Nat)) (((1 : Nat), fun (x : Nat) => CV.int IntKind.i64 (4 : Int)).snd j) (mixC (i' = (1 : Nat)) (((1 : Nat), fun (x : Nat) => CV.int IntKind.i64 (1 : Int)).snd j) (mixC (i' = (0 : Nat)) (((1 : Nat), fun (x : Nat) => CV.int IntKind.i64 (0 : Int)).snd j) ([CV.int IntKind.i64 (0 : Int)].getD j CV.any))) else [CV.nils].getD (nat_lit 0) CV.any)) (nums ([[(0 : Int), (1 : Int), (4 : Int)], [(1 : Int), (2 : Int)]].getD i []))) ∧ True) ∧ True ∧ ((3 : Nat) + (1 : Nat)) * (16 : Nat) ≤ (140737488355328 : Nat) ∧ (3 : Nat) + (1 : Nat) < (4611686018427387904 : Nat) ∧ ∃ (x : Unit), ((True ∧ ((((True ∧ True ∧ (3 : Int) = (3 : Int)) ∧ True ∧ (2 : Int) = (2 : Int)) ∧ True ∧ True ∧ (3 : Nat) + (1 : Nat) = (4 : Nat) ∧ ∀ (i : Nat), i < (3 : Nat) + (1 : Nat) → (True ∧ (if i < (3 : Nat) then if i = (2 : Nat) then (1 : Int) else if i = (1 : Nat) then (1 : Int) else if i = (0 : Nat) then (0 : Int) else (0 : Int) else if i - (3 : Nat) = (0 : Nat) then (0 : Int) else (0 : Int)) = ([[(0 : Int), (1 : Int)], [(1 : Int), (2 : Int)], [(1 : Int), (4 : Int)], [(0 : Int), (3 : Int)]].getD i []).getD (nat_lit 0) (0 : Int)) ∧ (if i < (3 : Nat) then if i = (2 : Nat) then (4 : Int) else if i = (1 : Nat) then (2 : Int) else if i = (0 : Nat) then (1 : Int) else (0 : Int) else if i - (3 : Nat) = (0 : Nat) then (3 : Int) else (0 : Int)) = ([[(0 : Int), (1 : Int)], [(1 : Int), (2 : Int)], [(1 : Int), (4 : Int)], [(0 : Int), (3 : Int)]].getD i []).getD (nat_lit 1) (0 : Int)) ∧ True ∧ (10 : Int) = (10 : Int)) ∧ True ∧ (3 : Int) = (3 : Int)) ∧ True) ∧ True ∧ ∃ (x : Unit), ((True ∧ ((((True ∧ True ∧ (3 : Int) = (3 : Int)) ∧ True ∧ (2 : Int) = (2 : Int)) ∧ True ∧ True ∧ (3 : Nat) = (3 : Nat) ∧ ∀ (i : Nat), i < (3 : Nat) → (True ∧ (if i = (2 : Nat) then (1 : Int) else if i = (1 : Nat) then (1 : Int) else if i = (0 : Nat) then (0 : Int) else (0 : Int)) = ([[(0 : Int), (1 : Int)], [(1 : Int), (2 : Int)], [(1 : Int), (4 : Int)]].getD i []).getD (nat_lit 0) (0 : Int)) ∧ (if i = (2 : Nat) then (4 : Int) else if i = (1 : Nat) then (2 : Int) else if i = (0 : Nat) then (1 : Int) else (0 : Int)) = ([[(0 : Int), (1 : Int)], [(1 : Int), (2 : Int)], [(1 : Int), (4 : Int)]].getD i []).getD (nat_lit 1) (0 : Int)) ∧ True ∧ (10 : Int) = (10 : Int)) ∧ True ∧ (3 : Int) = (3 : Int)) ∧ True) ∧ True ∧ (((0 : Int) == (0 : Int)) = true → (((0 : Int) == (0 : Int)) = true → (((0 : Int) == (0 : Int)) = true → (((42 : Int) == (42 : Int)) = true → (true = true → (((52 : Int) == (52 : Int)) = true → True ∧ ((↑[[(2 : Int), (1 : Int), (0 : Int)], [(1 : Int), (4 : Int)]].length : Int) == (2 : Int)) = true) ∧ (((52 : Int) == (52 : Int)) = false → True ∧ true = false)) ∧ (true = false → True ∧ true = false)) ∧ (((42 : Int) == (42 : Int)) = false → True ∧ true = false)) ∧ (((0 : Int) == (0 : Int)) = false → True ∧ true = false)) ∧ (((0 : Int) == (0 : Int)) = false → True ∧ true = false)) ∧ (((0 : Int) == (0 : Int)) = false → True ∧ true = false))))))))))))) (by kernel_rfl) ?_
  have w0 : ∀ l, (flX l).wf := fun l => ⟨by show 3 < 4611686018427387904; decide, by show 3 < 4611686018427387904; decide, by show 2 < 4611686018427387904; decide⟩
  have w1 : ∀ l, (tr0 l).wf := fun l => ⟨by show 3 < 4611686018427387904; decide, by show 3 < 4611686018427387904; decide, by show 2 < 4611686018427387904; decide, by show 2 < 4611686018427387904; decide⟩
  repeat first | (refine ⟨(_, _), ⟨⟨trivial, rfl⟩, ⟨trivial, rfl⟩, trivial⟩, trivial, ?_⟩) | (refine And.intro (by decide) ?_)
  refine ⟨⟨fl0, tr0 [10, 12, 14], 1, 3⟩, ?_, ⟨w0 _, w1 _⟩, ?_⟩
  · repeat' first | exact trivial | exact rfl | apply And.intro | refine all3 ?_ ?_ ?_ | refine all2 ?_ ?_
  repeat first | (refine ⟨(_, _), ⟨⟨trivial, rfl⟩, ⟨trivial, rfl⟩, trivial⟩, trivial, ?_⟩) | (refine And.intro (by decide) ?_)
  refine ⟨(fl0, tr0 [20, 10, 10]), ?_, ⟨w0 _, w1 _⟩, ?_⟩
  · repeat' first | exact trivial | exact rfl | apply And.intro | refine all3 ?_ ?_ ?_ | refine all2 ?_ ?_
  repeat first | (refine ⟨(_, _), ⟨⟨trivial, rfl⟩, ⟨trivial, rfl⟩, trivial⟩, trivial, ?_⟩) | (refine And.intro (by decide) ?_)
  refine ⟨⟨fl1, 0, 1, 3⟩, ?_, w0 _, ?_⟩
  · repeat' first | exact trivial | exact rfl | apply And.intro | refine all3 ?_ ?_ ?_ | refine all2 ?_ ?_
  repeat first | (refine ⟨(_, _), ⟨⟨trivial, rfl⟩, ⟨trivial, rfl⟩, trivial⟩, trivial, ?_⟩) | (refine And.intro (by decide) ?_)
  refine ⟨fl0, ?_, w0 _, ?_⟩
  · repeat' first | exact trivial | exact rfl | apply And.intro | refine all3 ?_ ?_ ?_ | refine all2 ?_ ?_
  repeat first | (refine ⟨(_, _), ⟨⟨trivial, rfl⟩, ⟨trivial, rfl⟩, trivial⟩, trivial, ?_⟩) | (refine And.intro (by decide) ?_)
  refine ⟨(fl0, 1, 100), ?_, w0 _, ?_⟩
  · repeat' first | exact trivial | exact rfl | apply And.intro | refine all3 ?_ ?_ ?_ | refine all2 ?_ ?_
  repeat first | (refine ⟨fun h => absurd h (by decide +kernel), fun _ => ?_⟩) | (refine ⟨(_, _), ⟨⟨trivial, rfl⟩, ⟨trivial, rfl⟩, trivial⟩, trivial, ?_⟩) | (refine And.intro (by decide) ?_)
  refine ⟨(), ?_, trivial, ?_⟩
  · repeat' first | exact trivial | exact rfl | apply And.intro | refine all3 ?_ ?_ ?_ | refine all2 ?_ ?_
  refine And.intro (by decide) (And.intro (by decide) ?_)
  refine ⟨(), ?_, trivial, ?_⟩
  · repeat' first | exact trivial | exact rfl | apply And.intro | refine all4 ?_ ?_ ?_ ?_
  refine ⟨(), ?_, trivial, ?_⟩
  · repeat' first | exact trivial | exact rfl | apply And.intro | refine all3 ?_ ?_ ?_
  repeat first | (refine ⟨fun _ => ?_, fun h => absurd h (by decide)⟩) | exact ⟨trivial, rfl⟩
def sYes : Sig := ⟨Unit, fun _ => [], fun _ => True, fun _ => [.v (.c (.bool true))]⟩
end Go.Proofs.YtcfmdhlohahhcaaDoor
set_option linter.unusedSimpArgs false
set_option linter.unusedVariables false
namespace Go.Proofs.YtcfmdhlohahhcaaDoor
open Go Go.Sx Nm
set_option maxRecDepth 100000
def TBC : List (Nat × Sig) := (21, sYes) :: (27, sShift) :: TAD
theorem TBC_ok : SigsOk Tryd.prog E0 TBC := (TAD_ok.cons (runs 27 (by kernel_rfl)) q27).cons (runs 21 (by kernel_rfl)) fun _ _ => q21
def two (a b : Int) : TV := .a 2 (ofList [.int .i64 a, .int .i64 b])
theorem exL {x : Fleet} {t : Truth} {n m : Int} {R : LAsk → Prop} (h : R ⟨x, t, n, m⟩) : ∃ a : LAsk, x.hE = a.x.hE ∧ (∀ i, i < x.hE → x.e i 0 = a.x.e i 0 ∧ x.e i 1 = a.x.e i 1) ∧ x.hN = a.x.hN ∧ (∀ i, i < x.hN → x.n i 0 = a.x.n i 0 ∧ x.n i 1 = a.x.n i 1) ∧ x.gap = a.x.gap ∧ x.k = a.x.k ∧ (∀ i, i < x.k → x.net i 0 = a.x.net i 0 ∧ x.net i 1 = a.x.net i 1 ∧ x.net i 2 = a.x.net i 2 ∧ x.net i 3 = a.x.net i 3 ∧ x.net i 4 = a.x.net i 4 ∧ x.net i 5 = a.x.net i 5 ∧ x.net i 6 = a.x.net i 6 ∧ x.net i 7 = a.x.net i 7 ∧ x.net i 8 = a.x.net i 8 ∧ x.net i 9 = a.x.net i 9) ∧ t.nE = a.t.nE ∧ (∀ i, i < t.nE → t.e i = a.t.e i) ∧ t.nN = a.t.nN ∧ (∀ i, i < t.nN → t.n i = a.t.n i) ∧ t.nSE = a.t.nSE ∧ (∀ i, i < t.nSE → t.se i = a.t.se i) ∧ t.nSN = a.t.nSN ∧ (∀ i, i < t.nSN → t.sn i = a.t.sn i) ∧ n = a.k ∧ m = a.h ∧ R a :=
  ⟨⟨x, t, n, m⟩, rfl, fun _ _ => ⟨rfl, rfl⟩, rfl, fun _ _ => ⟨rfl, rfl⟩, rfl, rfl, fun _ _ => ⟨rfl, rfl, rfl, rfl, rfl, rfl, rfl, rfl, rfl, rfl⟩, rfl, fun _ _ => rfl, rfl, fun _ _ => rfl, rfl, fun _ _ => rfl, rfl, fun _ _ => rfl, rfl, rfl, h⟩
theorem exQ {x : Fleet} {n m l : Int} {R : QAsk → Prop} (h : R ⟨x, n, m, l⟩) : ∃ a : QAsk, x.hE = a.x.hE ∧ (∀ i, i < x.hE → x.e i 0 = a.x.e i 0 ∧ x.e i 1 = a.x.e i 1) ∧ x.hN = a.x.hN ∧ (∀ i, i < x.hN → x.n i 0 = a.x.n i 0 ∧ x.n i 1 = a.x.n i 1) ∧ x.gap = a.x.gap ∧ x.k = a.x.k ∧ (∀ i, i < x.k → x.net i 0 = a.x.net i 0 ∧ x.net i 1 = a.x.net i 1 ∧ x.net i 2 = a.x.net i 2 ∧ x.net i 3 = a.x.net i 3 ∧ x.net i 4 = a.x.net i 4 ∧ x.net i 5 = a.x.net i 5 ∧ x.net i 6 = a.x.net i 6 ∧ x.net i 7 = a.x.net i 7 ∧ x.net i 8 = a.x.net i 8 ∧ x.net i 9 = a.x.net i 9) ∧ n = a.i ∧ m = a.k ∧ l = a.h ∧ R a :=
  ⟨⟨x, n, m, l⟩, rfl, fun _ _ => ⟨rfl, rfl⟩, rfl, fun _ _ => ⟨rfl, rfl⟩, rfl, rfl, fun _ _ => ⟨rfl, rfl, rfl, rfl, rfl, rfl, rfl, rfl, rfl, rfl⟩, rfl, rfl, rfl, h⟩
theorem q3 (a : Fleet × Truth × Int × Int) (ha : a.1.wf ∧ a.2.1.wf) : CallQ Tryd.prog E0 3 [fleetTV a.1, truthTV a.2.1, two a.2.2.1 a.2.2.2] [.v (.c (.bool true))] := by
  obtain ⟨x, t, n, m⟩ := a
  refine bare_say E0_ok TBC TBC_ok [] EvensOk.nil runs { live := true } (fuel := 8) ?_
  refine of_red (q := (0 : Int) ≤ (0 : Int) ∧ (0 : Int) < (↑(2 : Nat) : Int) ∧ (0 : Int) ≤ (1 : Int) ∧ (1 : Int) < (↑(2 : Nat) : Int) ∧ ∃ (x_1 : LAsk), ((True ∧ (((True ∧ True ∧ True ∧ x.hE = x_1.x.hE ∧ ∀ (i : Nat), i < x.hE → (True ∧ x.e i (nat_lit 0) = x_1.x.e i (nat_lit 0)) ∧ x.e i (nat_lit 1) = x_1.x.e i (nat_lit 1)) ∧ True ∧ True ∧ x.hN = x_1.x.hN ∧ ∀ (i : Nat), i < x.hN → (True ∧ x.n i (nat_lit 0) = x_1.x.n i (nat_lit 0)) ∧ x.n i (nat_lit 1) = x_1.x.n i (nat_lit 1)) ∧ True ∧ x.gap = x_1.x.gap) ∧ True ∧ True ∧ x.k = x_1.x.k ∧ ∀ (i : Nat), i < x.k → (((((((((True ∧ x.net i (nat_lit 0) = x_1.x.net i (nat_lit 0)) ∧ x.net i (nat_lit 1) = x_1.x.net i (nat_lit 1)) ∧ x.net i (nat_lit 2) = x_1.x.net i (nat_lit 2)) ∧ x.net i (nat_lit 3) = x_1.x.net i (nat_lit 3)) ∧ x.net i (nat_lit 4) = x_1.x.net i (nat_lit 4)) ∧ x.net i (nat_lit 5) = x_1.x.net i (nat_lit 5)) ∧ x.net i (nat_lit 6) = x_1.x.net i (nat_lit 6)) ∧ x.net i (nat_lit 7) = x_1.x.net i (nat_lit 7)) ∧ x.net i (nat_lit 8) = x_1.x.net i (nat_lit 8)) ∧ x.net i (nat_lit 9) = x_1.x.net i (nat_lit 9)) ∧ (True ∧ (((True ∧ True ∧ True ∧ (t, n, m).fst.nE = x_1.t.nE ∧ ∀ (i : Nat), i < (t, n, m).fst.nE → True ∧ (t, n, m).fst.e i = x_1.t.e i) ∧ True ∧ True ∧ (t, n, m).fst.nN = x_1.t.nN ∧ ∀ (i : Nat), i < (t, n, m).fst.nN → True ∧ (t, n, m).fst.n i = x_1.t.n i) ∧ True ∧ True ∧ (t, n, m).fst.nSE = x_1.t.nSE ∧ ∀ (i : Nat), i < (t, n, m).fst.nSE → True ∧ (t, n, m).fst.se i = x_1.t.se i) ∧ True ∧ True ∧ (t, n, m).fst.nSN = x_1.t.nSN ∧ ∀ (i : Nat), i < (t, n, m).fst.nSN → True ∧ (t, n, m).fst.sn i = x_1.t.sn i) ∧ (True ∧ n = x_1.k) ∧ (True ∧ m = x_1.h) ∧ True) ∧ ((x_1.x.hE < (4611686018427387904 : Nat) ∧ x_1.x.hN < (4611686018427387904 : Nat) ∧ x_1.x.k < (4611686018427387904 : Nat)) ∧ x_1.t.nE < (4611686018427387904 : Nat) ∧ x_1.t.nN < (4611686018427387904 : Nat) ∧ x_1.t.nSE < (4611686018427387904 : Nat) ∧ x_1.t.nSN < (4611686018427387904 : Nat)) ∧ (0 : Int) ≤ (0 : Int) ∧ (0 : Int) < (↑(2 : Nat) : Int) ∧ (0 : Int) ≤ (1 : Int) ∧ (1 : Int) < (↑(2 : Nat) : Int) ∧ ∃ (x_2 : LAsk), ((True ∧ (((True ∧ True ∧ True ∧ x.hE = x_2.x.hE ∧ ∀ (i : Nat), i < x.hE → (True ∧ x.e i (nat_lit 0) = x_2.x.e i (nat_lit 0)) ∧ x.e i (nat_lit 1) = x_2.x.e i (nat_lit 1)) ∧ True ∧ True ∧ x.hN = x_2.x.hN ∧ ∀ (i : Nat), i < x.hN → (True ∧ x.n i (nat_lit 0) = x_2.x.n i (nat_lit 0)) ∧ x.n i (nat_lit 1) = x_2.x.n i (nat_lit 1)) ∧ True ∧ x.gap = x_2.x.gap) ∧ True ∧ True ∧ x.k = x_2.x.k ∧ ∀ (i : Nat), i < x.k → (((((((((True ∧ x.net i (nat_lit 0) = x_2.x.net i (nat_lit 0)) ∧ x.net i (nat_lit 1) = x_2.x.net i (nat_lit 1)) ∧ x.net i (nat_lit 2) = x_2.x.net i (nat_lit 2)) ∧ x.net i (nat_lit 3) = x_2.x.net i (nat_lit 3)) ∧ x.net i (nat_lit 4) = x_2.x.net i (nat_lit 4)) ∧ x.net i (nat_lit 5) = x_2.x.net i (nat_lit 5)) ∧ x.net i (nat_lit 6) = x_2.x.net i (nat_lit 6)) ∧ x.net i (nat_lit 7) = x_2.x.net i (nat_lit 7)) ∧ x.net i (nat_lit 8) = x_2.x.net i (nat_lit 8)) ∧ x.net i (nat_lit 9) = x_2.x.net i (nat_lit 9)) ∧ (True ∧ (((True ∧ True ∧ True ∧ (t, n, m).fst.nE = x_2.t.nE ∧ ∀ (i : Nat), i < (t, n, m).fst.nE → True ∧ (t, n, m).fst.e i = x_2.t.e i) ∧ True ∧ True ∧ (t, n, m).fst.nN = x_2.t.nN ∧ ∀ (i : Nat), i < (t, n, m).fst.nN → True ∧ (t, n, m).fst.n i = x_2.t.n i) ∧ True ∧ True ∧ (t, n, m).fst.nSE = x_2.t.nSE ∧ ∀ (i : Nat), i < (t, n, m).fst.nSE → True ∧ (t, n, m).fst.se i = x_2.t.se i) ∧ True ∧ True ∧ (t, n, m).fst.nSN = x_2.t.nSN ∧ ∀ (i : Nat), i < (t, n, m).fst.nSN → True ∧ (t, n, m).fst.sn i = x_2.t.sn i) ∧ (True ∧ n = x_2.k) ∧ (True ∧ m = x_2.h) ∧ True) ∧ ((x_2.x.hE < (4611686018427387904 : Nat) ∧ x_2.x.hN < (4611686018427387904 : Nat) ∧ x_2.x.k < (4611686018427387904 : Nat)) ∧ x_2.t.nE < (4611686018427387904 : Nat) ∧ x_2.t.nN < (4611686018427387904 : Nat) ∧ x_2.t.nSE < (4611686018427387904 : Nat) ∧ x_2.t.nSN < (4611686018427387904 : Nat)) ∧ ((!(liR x_1.x x_1.t x_1.k x_1.h (liP x_1.x x_1.t.e x_1.t.se (0 : Nat) x_1.k.toNat x_1.h) == liR x_2.x x_2.t x_2.k x_2.h (liP x_2.x x_2.t.e x_2.t.se (0 : Nat) x_2.k.toNat x_2.h) && (liR x_1.x x_1.t x_1.k x_1.h (liP x_1.x x_1.t.n x_1.t.sn (1 : Nat) x_1.k.toNat x_1.h) == liR x_2.x x_2.t x_2.k x_2.h (liP x_2.x x_2.t.n x_2.t.sn (1 : Nat) x_2.k.toNat x_2.h) && true))) = true → True ∧ true = false) ∧ ((!(liR x_1.x x_1.t x_1.k x_1.h (liP x_1.x x_1.t.e x_1.t.se (0 : Nat) x_1.k.toNat x_1.h) == liR x_2.x x_2.t x_2.k x_2.h (liP x_2.x x_2.t.e x_2.t.se (0 : Nat) x_2.k.toNat x_2.h) && (liR x_1.x x_1.t x_1.k x_1.h (liP x_1.x x_1.t.n x_1.t.sn (1 : Nat) x_1.k.toNat x_1.h) == liR x_2.x x_2.t x_2.k x_2.h (liP x_2.x x_2.t.n x_2.t.sn (1 : Nat) x_2.k.toNat x_2.h) && true))) = false → ((liErr x_1.x x_1.t x_1.k x_1.h != liErr x_2.x x_2.t x_2.k x_2.h) = true → True ∧ true = false) ∧ ((liErr x_1.x x_1.t x_1.k x_1.h != liErr x_2.x x_2.t x_2.k x_2.h) = false → ∃ (x_3 : Fleet), ((True ∧ (((True ∧ True ∧ True ∧ x.hE = x_3.hE ∧ ∀ (i : Nat), i < x.hE → (True ∧ x.e i (nat_lit 0) = x_3.e i (nat_lit 0)) ∧ x.e i (nat_lit 1) = x_3.e i (nat_lit 1)) ∧ True ∧ True ∧ x.hN = x_3.hN ∧ ∀ (i : Nat), i < x.hN → (True ∧ x.n i (nat_lit 0) = x_3.n i (nat_lit 0)) ∧ x.n i (nat_lit 1) = x_3.n i (nat_lit 1)) ∧ True ∧ x.gap = x_3.gap) ∧ True ∧ True ∧ x.k = x_3.k ∧ ∀ (i : Nat), i < x.k → (((((((((True ∧ x.net i (nat_lit 0) = x_3.net i (nat_lit 0)) ∧ x.net i (nat_lit 1) = x_3.net i (nat_lit 1)) ∧ x.net i (nat_lit 2) = x_3.net i (nat_lit 2)) ∧ x.net i (nat_lit 3) = x_3.net i (nat_lit 3)) ∧ x.net i (nat_lit 4) = x_3.net i (nat_lit 4)) ∧ x.net i (nat_lit 5) = x_3.net i (nat_lit 5)) ∧ x.net i (nat_lit 6) = x_3.net i (nat_lit 6)) ∧ x.net i (nat_lit 7) = x_3.net i (nat_lit 7)) ∧ x.net i (nat_lit 8) = x_3.net i (nat_lit 8)) ∧ x.net i (nat_lit 9) = x_3.net i (nat_lit 9)) ∧ True) ∧ (x_3.hE < (4611686018427387904 : Nat) ∧ x_3.hN < (4611686018427387904 : Nat) ∧ x_3.k < (4611686018427387904 : Nat)) ∧ ∃ (x_4 : Fleet), ((True ∧ (((True ∧ True ∧ True ∧ x.hE = x_4.hE ∧ ∀ (i : Nat), i < x.hE → (True ∧ x.e i (nat_lit 0) = x_4.e i (nat_lit 0)) ∧ x.e i (nat_lit 1) = x_4.e i (nat_lit 1)) ∧ True ∧ True ∧ x.hN = x_4.hN ∧ ∀ (i : Nat), i < x.hN → (True ∧ x.n i (nat_lit 0) = x_4.n i (nat_lit 0)) ∧ x.n i (nat_lit 1) = x_4.n i (nat_lit 1)) ∧ True ∧ x.gap = x_4.gap) ∧ True ∧ True ∧ x.k = x_4.k ∧ ∀ (i : Nat), i < x.k → (((((((((True ∧ x.net i (nat_lit 0) = x_4.net i (nat_lit 0)) ∧ x.net i (nat_lit 1) = x_4.net i (nat_lit 1)) ∧ x.net i (nat_lit 2) = x_4.net i (nat_lit 2)) ∧ x.net i (nat_lit 3) = x_4.net i (nat_lit 3)) ∧ x.net i (nat_lit 4) = x_4.net i (nat_lit 4)) ∧ x.net i (nat_lit 5) = x_4.net i (nat_lit 5)) ∧ x.net i (nat_lit 6) = x_4.net i (nat_lit 6)) ∧ x.net i (nat_lit 7) = x_4.net i (nat_lit 7)) ∧ x.net i (nat_lit 8) = x_4.net i (nat_lit 8)) ∧ x.net i (nat_lit 9) = x_4.net i (nat_lit 9)) ∧ True) ∧ (x_4.hE < (4611686018427387904 : Nat) ∧ x_4.hN < (4611686018427387904 : Nat) ∧ x_4.k < (4611686018427387904 : Nat)) ∧ ((chkE x_3 != chkE x_4) = true → True ∧ true = false) ∧ ((chkE x_3 != chkE x_4) = false → ∃ (x_5 : Fleet × Truth), ((True ∧ (((True ∧ True ∧ True ∧ x.hE = x_5.fst.hE ∧ ∀ (i : Nat), i < x.hE → (True ∧ x.e i (nat_lit 0) = x_5.fst.e i (nat_lit 0)) ∧ x.e i (nat_lit 1) = x_5.fst.e i (nat_lit 1)) ∧ True ∧ True ∧ x.hN = x_5.fst.hN ∧ ∀ (i : Nat), i < x.hN → (True ∧ x.n i (nat_lit 0) = x_5.fst.n i (nat_lit 0)) ∧ x.n i (nat_lit 1) = x_5.fst.n i (nat_lit 1)) ∧ True ∧ x.gap = x_5.fst.gap) ∧ True ∧ True ∧ x.k = x_5.fst.k ∧ ∀ (i : Nat), i < x.k → (((((((((True ∧ x.net i (nat_lit 0) = x_5.fst.net i (nat_lit 0)) ∧ x.net i (nat_lit 1) = x_5.fst.net i (nat_lit 1)) ∧ x.net i (nat_lit 2) = x_5.fst.net i (nat_lit 2)) ∧ x.net i (nat_lit 3) = x_5.fst.net i (nat_lit 3)) ∧ x.net i (nat_lit 4) = x_5.fst.net i (nat_lit 4)) ∧ x.net i (nat_lit 5) = x_5.fst.net i (nat_lit 5)) ∧ x.net i (nat_lit 6) = x_5.fst.net i (nat_lit 6)) ∧ x.net i (nat_lit 7) = x_5.fst.net i (nat_lit 7)) ∧ x.net i (nat_lit 8) = x_5.fst.net i (nat_lit 8)) ∧ x.net i (nat_lit 9) = x_5.fst.net i (nat_lit 9)) ∧ (True ∧ (((True ∧ True ∧ True ∧ (t, n, m).fst.nE = x_5.snd.nE ∧ ∀ (i : Nat), i < (t, n, m).fst.nE → True ∧ (t, n, m).fst.e i = x_5.snd.e i) ∧ True ∧ True ∧ (t, n, m).fst.nN = x_5.snd.nN ∧ ∀ (i : Nat), i < (t, n, m).fst.nN → True ∧ (t, n, m).fst.n i = x_5.snd.n i) ∧ True ∧ True ∧ (t, n, m).fst.nSE = x_5.snd.nSE ∧ ∀ (i : Nat), i < (t, n, m).fst.nSE → True ∧ (t, n, m).fst.se i = x_5.snd.se i) ∧ True ∧ True ∧ (t, n, m).fst.nSN = x_5.snd.nSN ∧ ∀ (i : Nat), i < (t, n, m).fst.nSN → True ∧ (t, n, m).fst.sn i = x_5.snd.sn i) ∧ True) ∧ ((x_5.fst.hE < (4611686018427387904 : Nat) ∧ x_5.fst.hN < (4611686018427387904 : Nat) ∧ x_5.fst.k < (4611686018427387904 : Nat)) ∧ x_5.snd.nE < (4611686018427387904 : Nat) ∧ x_5.snd.nN < (4611686018427387904 : Nat) ∧ x_5.snd.nSE < (4611686018427387904 : Nat) ∧ x_5.snd.nSN < (4611686018427387904 : Nat)) ∧ ∃ (x_6 : Fleet × Truth), ((True ∧ (((True ∧ True ∧ True ∧ x.hE = x_6.fst.hE ∧ ∀ (i : Nat), i < x.hE → (True ∧ x.e i (nat_lit 0) = x_6.fst.e i (nat_lit 0)) ∧ x.e i (nat_lit 1) = x_6.fst.e i (nat_lit 1)) ∧ True ∧ True ∧ x.hN = x_6.fst.hN ∧ ∀ (i : Nat), i < x.hN → (True ∧ x.n i (nat_lit 0) = x_6.fst.n i (nat_lit 0)) ∧ x.n i (nat_lit 1) = x_6.fst.n i (nat_lit 1)) ∧ True ∧ x.gap = x_6.fst.gap) ∧ True ∧ True ∧ x.k = x_6.fst.k ∧ ∀ (i : Nat), i < x.k → (((((((((True ∧ x.net i (nat_lit 0) = x_6.fst.net i (nat_lit 0)) ∧ x.net i (nat_lit 1) = x_6.fst.net i (nat_lit 1)) ∧ x.net i (nat_lit 2) = x_6.fst.net i (nat_lit 2)) ∧ x.net i (nat_lit 3) = x_6.fst.net i (nat_lit 3)) ∧ x.net i (nat_lit 4) = x_6.fst.net i (nat_lit 4)) ∧ x.net i (nat_lit 5) = x_6.fst.net i (nat_lit 5)) ∧ x.net i (nat_lit 6) = x_6.fst.net i (nat_lit 6)) ∧ x.net i (nat_lit 7) = x_6.fst.net i (nat_lit 7)) ∧ x.net i (nat_lit 8) = x_6.fst.net i (nat_lit 8)) ∧ x.net i (nat_lit 9) = x_6.fst.net i (nat_lit 9)) ∧ (True ∧ (((True ∧ True ∧ True ∧ (t, n, m).fst.nE = x_6.snd.nE ∧ ∀ (i : Nat), i < (t, n, m).fst.nE → True ∧ (t, n, m).fst.e i = x_6.snd.e i) ∧ True ∧ True ∧ (t, n, m).fst.nN = x_6.snd.nN ∧ ∀ (i : Nat), i < (t, n, m).fst.nN → True ∧ (t, n, m).fst.n i = x_6.snd.n i) ∧ True ∧ True ∧ (t, n, m).fst.nSE = x_6.snd.nSE ∧ ∀ (i : Nat), i < (t, n, m).fst.nSE → True ∧ (t, n, m).fst.se i = x_6.snd.se i) ∧ True ∧ True ∧ (t, n, m).fst.nSN = x_6.snd.nSN ∧ ∀ (i : Nat), i < (t, n, m).fst.nSN → True ∧ (t, n, m).fst.sn i = x_6.snd.sn i) ∧ True) ∧ ((x_6.fst.hE < (4611686018427387904 : Nat) ∧ x_6.fst.hN < (4611686018427387904 : Nat) ∧ x_6.fst.k < (4611686018427387904 : Nat)) ∧ x_6.snd.nE < (4611686018427387904 : Nat) ∧ x_6.snd.nN < (4611686018427387904 : Nat) ∧ x_6.snd.nSE < (4611686018427387904 : Nat) ∧ x_6.snd.nSN < (4611686018427387904 : Nat)) ∧ ((oH (fouO x_5.fst x_5.snd) == oH (fouO x_6.fst x_6.snd) && (oI (fouO x_5.fst x_5.snd) == oI (fouO x_6.fst x_6.snd) && (oK (fouO x_5.fst x_5.snd) == oK (fouO x_6.fst x_6.snd) && true))) = true → ((fouE x_5.fst x_5.snd == fouE x_6.fst x_6.snd) = true → ∃ (x : Unit), True ∧ True ∧ True ∧ true = true) ∧ ((fouE x_5.fst x_5.snd == fouE x_6.fst x_6.snd) = false → True ∧ true = false)) ∧ ((oH (fouO x_5.fst x_5.snd) == oH (fouO x_6.fst x_6.snd) && (oI (fouO x_5.fst x_5.snd) == oI (fouO x_6.fst x_6.snd) && (oK (fouO x_5.fst x_5.snd) == oK (fouO x_6.fst x_6.snd) && true))) = false → True ∧ true = false))))) (by kernel_rfl) ?_
  simp only [true_and, and_true, inR, Prod.exists, Prod.forall, and_assoc, exists_and_left, exists_eq_left', exists_eq_left, forall_eq, exists_const, forall_const, loopN, loopM, fa2, fas, fas2, dup1, dup2, dup3, dup4, ite_true, exhs, exhn, exhz, exho, exs1, exn1, exz1, exo1, exs2, exn2, exz2, exo2, exs3, exn3, exz3, exo3, exs4, exn4, exz4, exo4, exs5, exn5, exz5, exo5, exs6, exn6, exz6, exo6, exs7, exn7, exz7, exo7, exs8, exn8, exz8, exo8, exs9, exn9, exz9, exo9, ex1, ex2, ex3, ex4, ex5, beqI, bneI, decide_true, Bool.true_and, decide_eq_true_eq, decide_eq_false_iff_not, ne_eq, Decidable.not_not]
  obtain ⟨⟨w1, w2, w3⟩, v1, v2, v3, v4⟩ := (show x.wf ∧ t.wf from ha)
  refine ⟨by decide, by decide, by decide, by decide, exL ⟨w1, w2, w3, v1, v2, v3, v4, by decide, by decide, by decide, by decide, exL ⟨w1, w2, w3, v1, v2, v3, v4, fun h => ?_, fun _ => ⟨fun h => absurd rfl h, fun _ => exF ⟨w1, w2, w3, exF ⟨w1, w2, w3, fun h => absurd rfl h, fun _ => exF (exT ⟨w1, w2, w3, v1, v2, v3, v4, exF (exT ⟨w1, w2, w3, v1, v2, v3, v4, fun _ => ⟨fun _ => trivial, fun h => absurd rfl h⟩, fun h => ?_⟩)⟩)⟩⟩⟩⟩⟩⟩
  · simp at h
  · simp at h
theorem q4 (a : Fleet × Int × Int × Int) (ha : a.1.wf) : CallQ Tryd.prog E0 4 [fleetTV a.1, .a 3 (ofList [.int .i64 a.2.1, .int .i64 a.2.2.1, .int .i64 a.2.2.2])] [.v (.c (.bool true))] := by
  obtain ⟨x, n, m, l⟩ := a
  refine bare_say E0_ok TBC TBC_ok [] EvensOk.nil runs { live := true } (fuel := 8) ?_
  refine of_red (q := (0 : Int) ≤ (0 : Int) ∧ (0 : Int) < (↑(3 : Nat) : Int) ∧ (0 : Int) ≤ (1 : Int) ∧ (1 : Int) < (↑(3 : Nat) : Int) ∧ (0 : Int) ≤ (2 : Int) ∧ (2 : Int) < (↑(3 : Nat) : Int) ∧ ∃ (x_1 : QAsk), ((True ∧ (((True ∧ True ∧ True ∧ x.hE = x_1.x.hE ∧ ∀ (i : Nat), i < x.hE → (True ∧ x.e i (nat_lit 0) = x_1.x.e i (nat_lit 0)) ∧ x.e i (nat_lit 1) = x_1.x.e i (nat_lit 1)) ∧ True ∧ True ∧ x.hN = x_1.x.hN ∧ ∀ (i : Nat), i < x.hN → (True ∧ x.n i (nat_lit 0) = x_1.x.n i (nat_lit 0)) ∧ x.n i (nat_lit 1) = x_1.x.n i (nat_lit 1)) ∧ True ∧ x.gap = x_1.x.gap) ∧ True ∧ True ∧ x.k = x_1.x.k ∧ ∀ (i : Nat), i < x.k → (((((((((True ∧ x.net i (nat_lit 0) = x_1.x.net i (nat_lit 0)) ∧ x.net i (nat_lit 1) = x_1.x.net i (nat_lit 1)) ∧ x.net i (nat_lit 2) = x_1.x.net i (nat_lit 2)) ∧ x.net i (nat_lit 3) = x_1.x.net i (nat_lit 3)) ∧ x.net i (nat_lit 4) = x_1.x.net i (nat_lit 4)) ∧ x.net i (nat_lit 5) = x_1.x.net i (nat_lit 5)) ∧ x.net i (nat_lit 6) = x_1.x.net i (nat_lit 6)) ∧ x.net i (nat_lit 7) = x_1.x.net i (nat_lit 7)) ∧ x.net i (nat_lit 8) = x_1.x.net i (nat_lit 8)) ∧ x.net i (nat_lit 9) = x_1.x.net i (nat_lit 9)) ∧ (True ∧ n = x_1.i) ∧ (True ∧ m = x_1.k) ∧ (True ∧ l = x_1.h) ∧ True) ∧ (x_1.x.hE < (4611686018427387904 : Nat) ∧ x_1.x.hN < (4611686018427387904 : Nat) ∧ x_1.x.k < (4611686018427387904 : Nat)) ∧ (0 : Int) ≤ (0 : Int) ∧ (0 : Int) < (↑(3 : Nat) : Int) ∧ (0 : Int) ≤ (1 : Int) ∧ (1 : Int) < (↑(3 : Nat) : Int) ∧ (0 : Int) ≤ (2 : Int) ∧ (2 : Int) < (↑(3 : Nat) : Int) ∧ ∃ (x_2 : QAsk), ((True ∧ (((True ∧ True ∧ True ∧ x.hE = x_2.x.hE ∧ ∀ (i : Nat), i < x.hE → (True ∧ x.e i (nat_lit 0) = x_2.x.e i (nat_lit 0)) ∧ x.e i (nat_lit 1) = x_2.x.e i (nat_lit 1)) ∧ True ∧ True ∧ x.hN = x_2.x.hN ∧ ∀ (i : Nat), i < x.hN → (True ∧ x.n i (nat_lit 0) = x_2.x.n i (nat_lit 0)) ∧ x.n i (nat_lit 1) = x_2.x.n i (nat_lit 1)) ∧ True ∧ x.gap = x_2.x.gap) ∧ True ∧ True ∧ x.k = x_2.x.k ∧ ∀ (i : Nat), i < x.k → (((((((((True ∧ x.net i (nat_lit 0) = x_2.x.net i (nat_lit 0)) ∧ x.net i (nat_lit 1) = x_2.x.net i (nat_lit 1)) ∧ x.net i (nat_lit 2) = x_2.x.net i (nat_lit 2)) ∧ x.net i (nat_lit 3) = x_2.x.net i (nat_lit 3)) ∧ x.net i (nat_lit 4) = x_2.x.net i (nat_lit 4)) ∧ x.net i (nat_lit 5) = x_2.x.net i (nat_lit 5)) ∧ x.net i (nat_lit 6) = x_2.x.net i (nat_lit 6)) ∧ x.net i (nat_lit 7) = x_2.x.net i (nat_lit 7)) ∧ x.net i (nat_lit 8) = x_2.x.net i (nat_lit 8)) ∧ x.net i (nat_lit 9) = x_2.x.net i (nat_lit 9)) ∧ (True ∧ n = x_2.i) ∧ (True ∧ m = x_2.k) ∧ (True ∧ l = x_2.h) ∧ True) ∧ (x_2.x.hE < (4611686018427387904 : Nat) ∧ x_2.x.hN < (4611686018427387904 : Nat) ∧ x_2.x.k < (4611686018427387904 : Nat)) ∧ ((!(aqR x_1 (raLo (rE x_1.x x_1.i.toNat x_1.k.toNat x_1.h.toNat)) == aqR x_2 (raLo (rE x_2.x x_2.i.toNat x_2.k.toNat x_2.h.toNat)) && (aqR x_1 (raHi (rE x_1.x x_1.i.toNat x_1.k.toNat x_1.h.toNat)) == aqR x_2 (raHi (rE x_2.x x_2.i.toNat x_2.k.toNat x_2.h.toNat)) && true))) = true → True ∧ true = false) ∧ ((!(aqR x_1 (raLo (rE x_1.x x_1.i.toNat x_1.k.toNat x_1.h.toNat)) == aqR x_2 (raLo (rE x_2.x x_2.i.toNat x_2.k.toNat x_2.h.toNat)) && (aqR x_1 (raHi (rE x_1.x x_1.i.toNat x_1.k.toNat x_1.h.toNat)) == aqR x_2 (raHi (rE x_2.x x_2.i.toNat x_2.k.toNat x_2.h.toNat)) && true))) = false → ((!(aqR x_1 (raLo (rN x_1.x x_1.i.toNat x_1.k.toNat x_1.h.toNat)) == aqR x_2 (raLo (rN x_2.x x_2.i.toNat x_2.k.toNat x_2.h.toNat)) && (aqR x_1 (raHi (rN x_1.x x_1.i.toNat x_1.k.toNat x_1.h.toNat)) == aqR x_2 (raHi (rN x_2.x x_2.i.toNat x_2.k.toNat x_2.h.toNat)) && true))) = true → True ∧ true = false) ∧ ((!(aqR x_1 (raLo (rN x_1.x x_1.i.toNat x_1.k.toNat x_1.h.toNat)) == aqR x_2 (raLo (rN x_2.x x_2.i.toNat x_2.k.toNat x_2.h.toNat)) && (aqR x_1 (raHi (rN x_1.x x_1.i.toNat x_1.k.toNat x_1.h.toNat)) == aqR x_2 (raHi (rN x_2.x x_2.i.toNat x_2.k.toNat x_2.h.toNat)) && true))) = false → ((aqE x_1 != aqE x_2) = true → True ∧ true = false) ∧ ((aqE x_1 != aqE x_2) = false → ∃ (x_3 : Fleet), ((True ∧ (((True ∧ True ∧ True ∧ x.hE = x_3.hE ∧ ∀ (i : Nat), i < x.hE → (True ∧ x.e i (nat_lit 0) = x_3.e i (nat_lit 0)) ∧ x.e i (nat_lit 1) = x_3.e i (nat_lit 1)) ∧ True ∧ True ∧ x.hN = x_3.hN ∧ ∀ (i : Nat), i < x.hN → (True ∧ x.n i (nat_lit 0) = x_3.n i (nat_lit 0)) ∧ x.n i (nat_lit 1) = x_3.n i (nat_lit 1)) ∧ True ∧ x.gap = x_3.gap) ∧ True ∧ True ∧ x.k = x_3.k ∧ ∀ (i : Nat), i < x.k → (((((((((True ∧ x.net i (nat_lit 0) = x_3.net i (nat_lit 0)) ∧ x.net i (nat_lit 1) = x_3.net i (nat_lit 1)) ∧ x.net i (nat_lit 2) = x_3.net i (nat_lit 2)) ∧ x.net i (nat_lit 3) = x_3.net i (nat_lit 3)) ∧ x.net i (nat_lit 4) = x_3.net i (nat_lit 4)) ∧ x.net i (nat_lit 5) = x_3.net i (nat_lit 5)) ∧ x.net i (nat_lit 6) = x_3.net i (nat_lit 6)) ∧ x.net i (nat_lit 7) = x_3.net i (nat_lit 7)) ∧ x.net i (nat_lit 8) = x_3.net i (nat_lit 8)) ∧ x.net i (nat_lit 9) = x_3.net i (nat_lit 9)) ∧ True) ∧ (x_3.hE < (4611686018427387904 : Nat) ∧ x_3.hN < (4611686018427387904 : Nat) ∧ x_3.k < (4611686018427387904 : Nat)) ∧ ∃ (x_4 : Fleet), ((True ∧ (((True ∧ True ∧ True ∧ x.hE = x_4.hE ∧ ∀ (i : Nat), i < x.hE → (True ∧ x.e i (nat_lit 0) = x_4.e i (nat_lit 0)) ∧ x.e i (nat_lit 1) = x_4.e i (nat_lit 1)) ∧ True ∧ True ∧ x.hN = x_4.hN ∧ ∀ (i : Nat), i < x.hN → (True ∧ x.n i (nat_lit 0) = x_4.n i (nat_lit 0)) ∧ x.n i (nat_lit 1) = x_4.n i (nat_lit 1)) ∧ True ∧ x.gap = x_4.gap) ∧ True ∧ True ∧ x.k = x_4.k ∧ ∀ (i : Nat), i < x.k → (((((((((True ∧ x.net i (nat_lit 0) = x_4.net i (nat_lit 0)) ∧ x.net i (nat_lit 1) = x_4.net i (nat_lit 1)) ∧ x.net i (nat_lit 2) = x_4.net i (nat_lit 2)) ∧ x.net i (nat_lit 3) = x_4.net i (nat_lit 3)) ∧ x.net i (nat_lit 4) = x_4.net i (nat_lit 4)) ∧ x.net i (nat_lit 5) = x_4.net i (nat_lit 5)) ∧ x.net i (nat_lit 6) = x_4.net i (nat_lit 6)) ∧ x.net i (nat_lit 7) = x_4.net i (nat_lit 7)) ∧ x.net i (nat_lit 8) = x_4.net i (nat_lit 8)) ∧ x.net i (nat_lit 9) = x_4.net i (nat_lit 9)) ∧ True) ∧ (x_4.hE < (4611686018427387904 : Nat) ∧ x_4.hN < (4611686018427387904 : Nat) ∧ x_4.k < (4611686018427387904 : Nat)) ∧ ((oH (canO x_3) == oH (canO x_4) && (oI (canO x_3) == oI (canO x_4) && (oK (canO x_3) == oK (canO x_4) && true))) = true → ((canE x_3 == canE x_4) = true → ∃ (x : Unit), True ∧ True ∧ True ∧ true = true) ∧ ((canE x_3 == canE x_4) = false → True ∧ true = false)) ∧ ((oH (canO x_3) == oH (canO x_4) && (oI (canO x_3) == oI (canO x_4) && (oK (canO x_3) == oK (canO x_4) && true))) = false → True ∧ true = false))))) (by kernel_rfl) ?_
  simp only [true_and, and_true, inR, Prod.exists, Prod.forall, and_assoc, exists_and_left, exists_eq_left', exists_eq_left, forall_eq, exists_const, forall_const, loopN, loopM, fa2, fas, fas2, dup1, dup2, dup3, dup4, ite_true, exhs, exhn, exhz, exho, exs1, exn1, exz1, exo1, exs2, exn2, exz2, exo2, exs3, exn3, exz3, exo3, exs4, exn4, exz4, exo4, exs5, exn5, exz5, exo5, exs6, exn6, exz6, exo6, exs7, exn7, exz7, exo7, exs8, exn8, exz8, exo8, exs9, exn9, exz9, exo9, ex1, ex2, ex3, ex4, ex5, beqI, bneI, decide_true, Bool.true_and, decide_eq_true_eq, decide_eq_false_iff_not, ne_eq, Decidable.not_not]
  obtain ⟨w1, w2, w3⟩ := (show x.wf from ha)
  refine ⟨by decide, by decide, by decide, by decide, by decide, by decide, exQ ⟨w1, w2, w3, by decide, by decide, by decide, by decide, by decide, by decide, exQ ⟨w1, w2, w3, fun h => ?_, fun _ => ⟨fun h => ?_, fun _ => ⟨fun h => absurd rfl h, fun _ => exF ⟨w1, w2, w3, exF ⟨w1, w2, w3, fun _ => ⟨fun _ => trivial, fun h => absurd rfl h⟩, fun h => ?_⟩⟩⟩⟩⟩⟩⟩
  · simp at h
  · simp at h
  · simp at h
theorem q5 (a : Fleet × Int × Int) (ha : a.1.wf) : CallQ Tryd.prog E0 5 [fleetTV a.1, two a.2.1 a.2.2] [.v (.c (.bool true))] := by
  obtain ⟨x, n, m⟩ := a
  refine bare_say E0_ok TBC TBC_ok [] EvensOk.nil runs { live := true } (fuel := 8) ?_
  refine of_red (q := (0 : Int) ≤ (0 : Int) ∧ (0 : Int) < (↑(2 : Nat) : Int) ∧ (0 : Int) ≤ (1 : Int) ∧ (1 : Int) < (↑(2 : Nat) : Int) ∧ ∃ (x_1 : Fleet × Int × Int), ((True ∧ (((True ∧ True ∧ True ∧ x.hE = x_1.fst.hE ∧ ∀ (i : Nat), i < x.hE → (True ∧ x.e i (nat_lit 0) = x_1.fst.e i (nat_lit 0)) ∧ x.e i (nat_lit 1) = x_1.fst.e i (nat_lit 1)) ∧ True ∧ True ∧ x.hN = x_1.fst.hN ∧ ∀ (i : Nat), i < x.hN → (True ∧ x.n i (nat_lit 0) = x_1.fst.n i (nat_lit 0)) ∧ x.n i (nat_lit 1) = x_1.fst.n i (nat_lit 1)) ∧ True ∧ x.gap = x_1.fst.gap) ∧ True ∧ True ∧ x.k = x_1.fst.k ∧ ∀ (i : Nat), i < x.k → (((((((((True ∧ x.net i (nat_lit 0) = x_1.fst.net i (nat_lit 0)) ∧ x.net i (nat_lit 1) = x_1.fst.net i (nat_lit 1)) ∧ x.net i (nat_lit 2) = x_1.fst.net i (nat_lit 2)) ∧ x.net i (nat_lit 3) = x_1.fst.net i (nat_lit 3)) ∧ x.net i (nat_lit 4) = x_1.fst.net i (nat_lit 4)) ∧ x.net i (nat_lit 5) = x_1.fst.net i (nat_lit 5)) ∧ x.net i (nat_lit 6) = x_1.fst.net i (nat_lit 6)) ∧ x.net i (nat_lit 7) = x_1.fst.net i (nat_lit 7)) ∧ x.net i (nat_lit 8) = x_1.fst.net i (nat_lit 8)) ∧ x.net i (nat_lit 9) = x_1.fst.net i (nat_lit 9)) ∧ (True ∧ n = x_1.snd.fst) ∧ (True ∧ m = x_1.snd.snd) ∧ True) ∧ (x_1.fst.hE < (4611686018427387904 : Nat) ∧ x_1.fst.hN < (4611686018427387904 : Nat) ∧ x_1.fst.k < (4611686018427387904 : Nat)) ∧ (0 : Int) ≤ (0 : Int) ∧ (0 : Int) < (↑(2 : Nat) : Int) ∧ (0 : Int) ≤ (1 : Int) ∧ (1 : Int) < (↑(2 : Nat) : Int) ∧ ∃ (x_2 : Fleet × Int × Int), ((True ∧ (((True ∧ True ∧ True ∧ x.hE = x_2.fst.hE ∧ ∀ (i : Nat), i < x.hE → (True ∧ x.e i (nat_lit 0) = x_2.fst.e i (nat_lit 0)) ∧ x.e i (nat_lit 1) = x_2.fst.e i (nat_lit 1)) ∧ True ∧ True ∧ x.hN = x_2.fst.hN ∧ ∀ (i : Nat), i < x.hN → (True ∧ x.n i (nat_lit 0) = x_2.fst.n i (nat_lit 0)) ∧ x.n i (nat_lit 1) = x_2.fst.n i (nat_lit 1)) ∧ True ∧ x.gap = x_2.fst.gap) ∧ True ∧ True ∧ x.k = x_2.fst.k ∧ ∀ (i : Nat), i < x.k → (((((((((True ∧ x.net i (nat_lit 0) = x_2.fst.net i (nat_lit 0)) ∧ x.net i (nat_lit 1) = x_2.fst.net i (nat_lit 1)) ∧ x.net i (nat_lit 2) = x_2.fst.net i (nat_lit 2)) ∧ x.net i (nat_lit 3) = x_2.fst.net i (nat_lit 3)) ∧ x.net i (nat_lit 4) = x_2.fst.net i (nat_lit 4)) ∧ x.net i (nat_lit 5) = x_2.fst.net i (nat_lit 5)) ∧ x.net i (nat_lit 6) = x_2.fst.net i (nat_lit 6)) ∧ x.net i (nat_lit 7) = x_2.fst.net i (nat_lit 7)) ∧ x.net i (nat_lit 8) = x_2.fst.net i (nat_lit 8)) ∧ x.net i (nat_lit 9) = x_2.fst.net i (nat_lit 9)) ∧ (True ∧ n = x_2.snd.fst) ∧ (True ∧ m = x_2.snd.snd) ∧ True) ∧ (x_2.fst.hE < (4611686018427387904 : Nat) ∧ x_2.fst.hN < (4611686018427387904 : Nat) ∧ x_2.fst.k < (4611686018427387904 : Nat)) ∧ ((shV x_1.fst x_1.snd.fst x_1.snd.snd == shV x_2.fst x_2.snd.fst x_2.snd.snd) = true → ((shE x_1.fst x_1.snd.fst x_1.snd.snd == shE x_2.fst x_2.snd.fst x_2.snd.snd) = true → ∃ (x : Unit), True ∧ True ∧ True ∧ true = true) ∧ ((shE x_1.fst x_1.snd.fst x_1.snd.snd == shE x_2.fst x_2.snd.fst x_2.snd.snd) = false → True ∧ true = false)) ∧ ((shV x_1.fst x_1.snd.fst x_1.snd.snd == shV x_2.fst x_2.snd.fst x_2.snd.snd) = false → True ∧ true = false)) (by kernel_rfl) ?_
  simp only [true_and, and_true, inR, Prod.exists, Prod.forall, and_assoc, exists_and_left, exists_eq_left', exists_eq_left, forall_eq, exists_const, forall_const, loopN, loopM, fa2, fas, fas2, dup1, dup2, dup3, dup4, ite_true, exhs, exhn, exhz, exho, exs1, exn1, exz1, exo1, exs2, exn2, exz2, exo2, exs3, exn3, exz3, exo3, exs4, exn4, exz4, exo4, exs5, exn5, exz5, exo5, exs6, exn6, exz6, exo6, exs7, exn7, exz7, exo7, exs8, exn8, exz8, exo8, exs9, exn9, exz9, exo9, ex1, ex2, ex3, ex4, ex5, beqI, bneI, decide_true, Bool.true_and, decide_eq_true_eq, decide_eq_false_iff_not, ne_eq, Decidable.not_not]
  obtain ⟨w1, w2, w3⟩ := (show x.wf from ha)
  exact ⟨by decide, by decide, by decide, by decide, exF ⟨w1, w2, w3, by decide, by decide, by decide, by decide, exF ⟨w1, w2, w3, fun _ => ⟨fun _ => trivial, fun h => absurd rfl h⟩, fun h => absurd rfl h⟩⟩⟩
end Go.Proofs.YtcfmdhlohahhcaaDoor
set_option linter.unusedSimpArgs false
set_option linter.unusedVariables false
namespace Go.Sx
def shapeB (E : Env) : Nat → Nat → Bool
  | 0, _ => false
  | n + 1, t => match E.ty t with
    | some ti => match ti.kind with
      | .bool => true
      | .int _ => true
      | .str => true
      | .slice e => match E.ty e with
        | some te => Nat.ble 1 te.size && shapeB E n e
        | none => false
      | .struct fs => fields E (shapeB E n) 0 ti.size fs
      | .array m e => match E.ty e with
        | some te => Nat.beq (m * te.size) ti.size && Nat.ble 1 te.size && shapeB E n e
        | none => false
      | _ => false
    | none => false
where
  fields (E : Env) (p : Nat → Bool) (o size : Nat) : List (Nat × TypeId) → Bool
    | [] => Nat.beq o size
    | (fo, ft) :: fs => match E.ty ft with
      | some tf => Nat.beq fo o && p ft && fields E p (o + tf.size) size fs
      | none => false
def Shp (E : Env) : Nat → Nat → (Nat → CV) → Prop
  | 0, _, _ => False
  | n + 1, t, get => match E.ty t with
    | some ti => match ti.kind with
      | .bool => ∃ b, get 0 = .bool b
      | .int k => ∃ a, get 0 = .int k a ∧ inRange k a
      | .str => ∃ s : ByteArray, get 0 = .str s ∧ s.size ≤ reachBytes
      | .slice e => match E.ty e with
        | some te => ∃ len g, get 0 = .vs te.size len g ∧ len * te.bytes ≤ reachBytes ∧ ∀ i, i < len → Shp E n e (g i)
        | none => False
      | .struct fs => AllF (fun x => Shp E n x.2 (fun j => get (x.1 + j))) fs
      | .array m e => match E.ty e with
        | some te => ∀ i, i < m → Shp E n e (fun j => get (i * te.size + j))
        | none => False
      | _ => False
    | none => False
where
  AllF (p : Nat × TypeId → Prop) : List (Nat × TypeId) → Prop
    | [] => True
    | x :: l => p x ∧ AllF p l
theorem Shp.AllF_congr {p q : Nat × TypeId → Prop} : ∀ {l : List (Nat × TypeId)}, (∀ x ∈ l, p x → q x) → Shp.AllF p l → Shp.AllF q l
  | [], _, _ => trivial
  | x :: _, h, h' => ⟨h x (by simp) h'.1, Shp.AllF_congr (fun y hy => h y (by simp [hy])) h'.2⟩
section
variable {P : Program} {E : Env}
theorem fields_mem {p : Nat → Bool} : ∀ {fs : List (Nat × TypeId)} {o size : Nat}, shapeB.fields E p o size fs = true → o ≤ size ∧ ∀ x ∈ fs, ∃ tf, E.ty x.2 = some tf ∧ p x.2 = true ∧ o ≤ x.1 ∧ x.1 + tf.size ≤ size
  | [], o, size, h => by
    obtain rfl := Nat.eq_of_beq_eq_true h
    exact ⟨Nat.le_refl _, fun x hx => by simp at hx⟩
  | (fo, ft) :: fs, o, size, h => by
    simp only [shapeB.fields] at h
    split at h
    · rename_i tf htf
      simp only [Bool.and_eq_true] at h
      obtain ⟨⟨h1, h2⟩, h3⟩ := h
      obtain rfl := Nat.eq_of_beq_eq_true h1
      obtain ⟨h4, h5⟩ := fields_mem h3
      refine ⟨by omega, fun x hx => ?_⟩
      rcases List.mem_cons.1 hx with rfl | hx
      · exact ⟨tf, htf, h2, Nat.le_refl _, h4⟩
      · obtain ⟨tg, a1, a2, a3, a4⟩ := h5 x hx
        exact ⟨tg, a1, a2, by omega, a4⟩
    · cases h
theorem Shp.congr (hT : TabOk P E) : ∀ {n t : Nat} {ti : TI} {g g' : Nat → CV}, E.ty t = some ti → shapeB E n t = true → (∀ j, j < ti.size → g j = g' j) → Shp E n t g → Shp E n t g'
  | 0, _, _, _, _, _, h, _, _ => by simp [shapeB] at h
  | n + 1, t, ti, g, g', ht, hs, he, h => by
    obtain ⟨hF, _⟩ := hT t ti ht
    obtain ⟨i, d, z, hF⟩ := tabTI_spec hF
    simp only [shapeB, ht] at hs
    simp only [Shp, ht] at h ⊢
    have one : ti.kind.isAgg = false → g 0 = g' 0 := fun hk => he 0 (by have := hF.one hk; omega)
    cases hk : ti.kind with
    | bool => rw [hk] at h; simp only at h ⊢; rw [← one (by rw [hk]; rfl)]; exact h
    | int k => rw [hk] at h; simp only at h ⊢; rw [← one (by rw [hk]; rfl)]; exact h
    | str => rw [hk] at h; simp only at h ⊢; rw [← one (by rw [hk]; rfl)]; exact h
    | slice e => rw [hk] at h; simp only at h ⊢; rw [← one (by rw [hk]; rfl)]; exact h
    | struct fs =>
      rw [hk] at h hs
      simp only at h hs ⊢
      refine Shp.AllF_congr (fun x hx hp => ?_) h
      obtain ⟨tf, h1, h2, h3, h4⟩ := (fields_mem hs).2 x hx
      exact Shp.congr hT h1 h2 (fun j hj => he _ (by omega)) hp
    | array m e =>
      rw [hk] at h hs
      simp only at h hs ⊢
      cases hte : E.ty e with
      | none => rw [hte] at h; exact h.elim
      | some te =>
        rw [hte] at h hs
        simp only [Bool.and_eq_true] at h hs ⊢
        have hsz := Nat.eq_of_beq_eq_true hs.1.1
        intro i hi
        refine Shp.congr hT hte hs.2 (fun j hj => he _ ?_) (h i hi)
        rw [← hsz]
        have : (i + 1) * te.size ≤ m * te.size := Nat.mul_le_mul_right _ hi
        rw [Nat.add_mul, Nat.one_mul] at this
        omega
    | ptr => rw [hk] at hs; cases hs
    | map k v => rw [hk] at hs; cases hs
    | func => rw [hk] at hs; cases hs
    | other => rw [hk] at hs; cases hs
variable {H : Type} {enc : TypeId × Value → H} {w : World} {held : Bool}
theorem add_none (b o i : Nat) : (⟨b, o, none⟩ : Addr).add i = ⟨b, o + i, none⟩ := by
  unfold Addr.add
  split
  · rename_i h; subst h; rfl
  · rfl
theorem weightsAll_mem {e : TypeId} : ∀ {l : List (DataW H)} {d : DataW H}, d ∈ l → ∀ x ∈ d.weights P e, x ∈ DataW.weightsAll P e l
  | [], _, h, _, _ => by cases h
  | y :: l, d, h, x, hx => by
    simp only [DataW.weightsAll, List.mem_append]
    rcases List.mem_cons.1 h with rfl | h
    · exact .inl hx
    · exact .inr (weightsAll_mem h x hx)
theorem fields_shape {n : Nat} {cs : List Value} {w : World} (ih : ∀ {t : Nat} {ti : TI} {fuel : Nat} {cs : List Value} {x : DataW H × List MemPlace}, E.ty t = some ti → shapeB E n t = true →
      DataW.trod enc P w 0 (fun _ => true) held fuel t cs = some x → (∀ y ∈ x.1.weights P t, y ≤ reachBytes) → cs.length = ti.size ∧ ∃ get, (∀ j u, cs[j]? = some u → RP (fun b => b < w.heap.size) w (get j) u) ∧ Shp E n t get)
    {fuel : Nat} (hcell : ∀ t tf, E.ty t = some tf → P.cellsOf t = tf.size) : ∀ {fs : List Field} {xs : List (DataW H × List MemPlace)} {o size : Nat}, (hT : TabOk P E) → shapeB.fields E (shapeB E n) o size (fs.map fun f => (f.offset, f.type)) = true →
      xs.length = fs.length → (∀ (i : Nat) (f : Field), fs[i]? = some f → DataW.trod enc P w 0 (fun _ => true) held fuel f.type ((cs.drop f.offset).take (P.cellsOf f.type)) = xs[i]?) →
      (∀ y ∈ DataW.weightsEach P (fs.map (·.type)) (xs.map (·.1)), y ≤ reachBytes) → cs.length = size →
      ∃ get : Nat → CV, (∀ j u, o ≤ j → cs[j]? = some u → RP (fun b => b < w.heap.size) w (get j) u) ∧ Shp.AllF (fun x => Shp E n x.2 (fun j => get (x.1 + j))) (fs.map fun f => (f.offset, f.type))
  | [], xs, o, size, hT, hf, hl, ht, hw, hcs => by
    obtain rfl := Nat.eq_of_beq_eq_true hf
    refine ⟨fun _ => .any, fun j u hj hu => ?_, trivial⟩
    have := (List.getElem?_eq_some_iff.1 hu).1
    omega
  | f :: fs, [], o, size, hT, hf, hl, ht, hw, hcs => by simp at hl
  | f :: fs, x :: xs, o, size, hT, hf, hl, ht, hw, hcs => by
    simp only [List.map_cons, shapeB.fields] at hf
    split at hf
    · rename_i tf htf
      simp only [Bool.and_eq_true] at hf
      obtain ⟨⟨h1, h2⟩, h3⟩ := hf
      have h1 := Nat.eq_of_beq_eq_true h1
      subst h1
      simp only [List.map_cons, DataW.weightsEach, List.mem_append] at hw
      have h0 := ht 0 f rfl
      obtain ⟨hlen, gf, hg1, hg2⟩ := ih htf h2 (h0.trans rfl) (fun y hy => hw y (.inl hy))
      obtain ⟨gr, hr1, hr2⟩ := fields_shape ih hcell (fs := fs) (xs := xs) (o := f.offset + tf.size) hT h3 (by simpa using hl) (fun i g hi => by simpa using ht (i + 1) g (by simpa using hi)) (fun y hy => hw y (.inr hy)) hcs
      refine ⟨fun j => if j < f.offset + tf.size then gf (j - f.offset) else gr j, fun j u hj hu => ?_, ?_, ?_⟩
      · by_cases e : j < f.offset + tf.size
        · simp only [if_pos e]
          refine hg1 _ u ?_
          rw [hcell _ _ htf, List.getElem?_take_of_lt (by omega), List.getElem?_drop]
          rw [show f.offset + (j - f.offset) = j by omega]; exact hu
        · simp only [if_neg e]
          exact hr1 j u (by omega) hu
      · refine Shp.congr hT htf h2 (fun j hj => ?_) hg2
        show gf j = if f.offset + j < f.offset + tf.size then gf (f.offset + j - f.offset) else gr (f.offset + j)
        rw [if_pos (by omega)]; congr 1; omega
      · refine Shp.AllF_congr (fun y hy hp => ?_) hr2
        obtain ⟨ty, a1, a2, a3, a4⟩ := (fields_mem h3).2 y hy
        refine Shp.congr hT a1 a2 (fun j hj => ?_) hp
        show gr (y.1 + j) = if y.1 + j < f.offset + tf.size then gf (y.1 + j - f.offset) else gr (y.1 + j)
        rw [if_neg (by omega)]
    · cases hf
theorem TabOk.cells (hT : TabOk P E) {t : Nat} {ti : TI} (ht : E.ty t = some ti) : P.cellsOf t = ti.size ∧ P.bytesOf t = ti.bytes := by
  obtain ⟨i, d, z, hF⟩ := tabTI_spec (hT t ti ht).1
  simp [Program.cellsOf, Program.bytesOf, hF.info, hF.size, hF.bytes]
theorem trod_shape (hT : TabOk P E) : ∀ {n t : Nat} {ti : TI} {fuel : Nat} {cs : List Value} {x : DataW H × List MemPlace}, E.ty t = some ti → shapeB E n t = true →
    DataW.trod enc P w 0 (fun _ => true) held fuel t cs = some x → (∀ y ∈ x.1.weights P t, y ≤ reachBytes) → cs.length = ti.size ∧ ∃ get, (∀ j u, cs[j]? = some u → RP (fun b => b < w.heap.size) w (get j) u) ∧ Shp E n t get
  | 0, _, _, _, _, _, _, h, _, _ => by simp [shapeB] at h
  | n + 1, t, ti, fuel, cs, x, ht, hs, h, hw => by
    obtain ⟨hF, hne⟩ := hT t ti ht
    obtain ⟨i, d, z, hF⟩ := tabTI_spec hF
    have hu := hF.und
    simp only [shapeB, ht] at hs
    have one : ∀ (v : Value) (y : CV), ti.kind.isAgg = false → RP (fun b => b < w.heap.size) w y v → [v].length = ti.size ∧ ∀ (j : Nat) (u : Value), [v][j]? = some u → RP (fun b => b < w.heap.size) w ((fun _ => y) j) u := fun v y hk hr => by
      refine ⟨by have := hF.one hk; simp [this], fun j u hj => ?_⟩
      cases j with
      | zero => simp at hj; subst hj; exact hr
      | succ j => simp at hj
    cases hk : ti.kind with
    | bool =>
      rw [hF.bool hk] at hu
      obtain ⟨b, rfl, rfl⟩ := DataW.trod_bool hu h
      obtain ⟨a1, a2⟩ := one (.bool b) (.bool b) (by rw [hk]; rfl) rfl
      exact ⟨a1, _, a2, by simp only [Shp, ht, hk]; exact ⟨b, rfl⟩⟩
    | int k =>
      rw [hF.int hk] at hu
      obtain ⟨a, rfl, rfl, hwf⟩ := DataW.trod_int hu h
      obtain ⟨a1, a2⟩ := one (.int k a) (.int k a) (by rw [hk]; rfl) rfl
      refine ⟨a1, _, a2, ?_⟩
      simp only [Shp, ht, hk]
      simp only [Lit.wf, Bool.and_eq_true, decide_eq_true_eq] at hwf
      exact ⟨a, rfl, hwf⟩
    | str =>
      rw [hF.str hk] at hu
      obtain ⟨s, rfl, rfl, hm⟩ := DataW.trod_string hu h
      obtain ⟨a1, a2⟩ := one (.string s) (.str s) (by rw [hk]; rfl) rfl
      refine ⟨a1, _, a2, ?_⟩
      simp only [Shp, ht, hk]
      have := hw s.data.toList.length (by simp [DataW.weights])
      exact ⟨s, rfl, by simpa using this⟩
    | slice e =>
      rw [hk] at hs
      rw [hF.slice hk] at hu
      simp only at hs
      cases hte : E.ty e with
      | none => rw [hte] at hs; cases hs
      | some te =>
        rw [hte] at hs
        simp only [Bool.and_eq_true] at hs
        have hpos : 1 ≤ te.size := Nat.le_of_ble_eq_true hs.1
        obtain ⟨hc, hb⟩ := hT.cells hte
        rcases DataW.trod_slice hu h with ⟨rfl, rfl⟩ | ⟨a, len, cap, elems, rest, m, _, rfl, rfl, _, hlc, _, hlen, hel, _, _⟩
        · obtain ⟨a1, a2⟩ := one (.slice none 0 0) (.vs te.size 0 (fun _ _ => .any)) (by rw [hk]; rfl) ⟨none, 0, rfl, Nat.le_refl _, fun hh => absurd hh (Nat.lt_irrefl 0)⟩
          refine ⟨a1, _, a2, ?_⟩
          simp only [Shp, ht, hk, hte]
          exact ⟨0, _, rfl, by simp, fun i hi => absurd hi (Nat.not_lt_zero i)⟩
        · simp only [DataW.weights, hu, List.mem_cons, List.mem_append] at hw
          have hwlen : len * te.bytes ≤ reachBytes := by
            refine Nat.le_trans (Nat.mul_le_mul_right _ ?_) (by have := hw _ (.inl rfl); rw [hb] at this; exact this)
            simp [hlen]
          have hE : ∀ i, i < len → ∃ g : Nat → CV, (∃ ecs : List Value, ecs.length = te.size ∧ (∀ j, j < te.size → w.cell? ((a.add (i * te.size)).add j) = ecs[j]?) ∧ ∀ j u, ecs[j]? = some u → RP (fun b => b < w.heap.size) w (g j) u) ∧ Shp E n e g := fun i hi => by
            have h1 := hel i hi
            have hi' : i < elems.length := by omega
            rw [List.getElem?_eq_getElem hi'] at h1
            simp only [Option.bind_eq_some_iff] at h1
            obtain ⟨ecs, h2, h3⟩ := h1
            obtain ⟨h4, h5, h6⟩ := World.cells?_some h2
            obtain ⟨h7, g, h8, h9⟩ := trod_shape hT hte hs.2 h3 (fun y hy => hw y (.inr (.inl (weightsAll_mem (List.mem_map.2 ⟨elems[i], List.getElem_mem hi', rfl⟩) y hy))))
            exact ⟨g, ⟨ecs, h7, fun j hj => by rw [← hc]; exact h6 j (by rw [hc]; exact hj), h8⟩, h9⟩
          have hG : ∃ g : Nat → Nat → CV, ∀ i, i < len → (∃ ecs : List Value, ecs.length = te.size ∧ (∀ j, j < te.size → w.cell? ((a.add (i * te.size)).add j) = ecs[j]?) ∧ ∀ j u, ecs[j]? = some u → RP (fun b => b < w.heap.size) w (g i j) u) ∧ Shp E n e (g i) := by
            refine ⟨fun i => if hi : i < len then Classical.choose (hE i hi) else fun _ => .any, fun i hi => ?_⟩
            simp only [dif_pos hi]
            exact Classical.choose_spec (hE i hi)
          obtain ⟨g, hg⟩ := hG
          have hr : RP (fun b => b < w.heap.size) w (.vs te.size len g) (.slice (some a) len cap) := by
            refine ⟨some a, cap, rfl, hlc, fun hl0 => ?_⟩
            obtain ⟨⟨ecs, e1, e2, _⟩, _⟩ := hg 0 hl0
            have e3 := e2 0 (by omega)
            have e4 : 0 < ecs.length := by omega
            rw [List.getElem?_eq_getElem e4] at e3
            have hsp : a.spot = none := by simpa [Addr.add] using World.cell?_spot e3
            obtain ⟨b, off, sp⟩ := a
            simp only at hsp; subst hsp
            have hblk : b < w.heap.size := by
              rw [add_none, add_none] at e3
              simp only [World.cell?] at e3
              cases hh : w.heap[b]? with
              | none => rw [hh] at e3; cases e3
              | some o => exact (Array.getElem?_eq_some_iff.1 hh).1
            refine ⟨b, off, rfl, hblk, fun i hi j hj => ?_⟩
            obtain ⟨⟨ecs, e1, e2, e5⟩, _⟩ := hg i hi
            have e6 := e2 j hj
            have e7 : j < ecs.length := by omega
            rw [List.getElem?_eq_getElem e7] at e6
            refine ⟨ecs[j], ?_, e5 j _ (List.getElem?_eq_getElem e7)⟩
            rw [add_none, add_none, Nat.add_assoc] at e6
            exact e6
          obtain ⟨a1, a2⟩ := one _ _ (by rw [hk]; rfl) hr
          refine ⟨a1, _, a2, ?_⟩
          simp only [Shp, ht, hk, hte]
          exact ⟨len, g, rfl, hwlen, fun i hi => (hg i hi).2⟩
    | struct l =>
      rw [hk] at hs
      simp only at hs
      obtain ⟨fs, rfl, rfl, _⟩ := hF.struct hk
      obtain ⟨xs, m, _, rfl, hcl, hxl, hx⟩ := DataW.trod_struct hu h
      rw [(hT.cells ht).1] at hcl
      simp only [DataW.weights, hu] at hw
      obtain ⟨get, g1, g2⟩ := fields_shape (cs := cs) (fun a b c d => trod_shape hT a b c d) (fun t tf h => (hT.cells h).1) (fs := fs.toList) (xs := xs) hT hs (by simpa using hxl) (fun i f hi => hx i f (by simpa using hi)) hw hcl
      refine ⟨hcl, get, fun j u hu => g1 j u (Nat.zero_le _) hu, ?_⟩
      simp only [Shp, ht, hk]
      exact g2
    | array m e =>
      rw [hk] at hs
      simp only at hs
      obtain ⟨rfl, _⟩ := hF.array hk
      cases hte : E.ty e with
      | none => rw [hte] at hs; cases hs
      | some te =>
        rw [hte] at hs
        simp only [Bool.and_eq_true] at hs
        have hsz := Nat.eq_of_beq_eq_true hs.1.1
        have hpos : 1 ≤ te.size := Nat.le_of_ble_eq_true hs.1.2
        obtain ⟨hc, _⟩ := hT.cells hte
        obtain ⟨xs, k, _, rfl, hcl, hxl, hx⟩ := DataW.trod_array hu h
        rw [(hT.cells ht).1] at hcl
        simp only [DataW.weights, hu] at hw
        have hE : ∀ i, i < m → ∃ g : Nat → CV, (∀ j u, j < te.size → cs[i * te.size + j]? = some u → RP (fun b => b < w.heap.size) w (g j) u) ∧ Shp E n e g := fun i hi => by
          have h1 := hx i hi
          have hi' : i < xs.length := by omega
          rw [List.getElem?_eq_getElem hi'] at h1
          obtain ⟨h7, g, h8, h9⟩ := trod_shape hT hte hs.2 h1 (fun y hy => hw y (weightsAll_mem (List.mem_map.2 ⟨xs[i], List.getElem_mem hi', rfl⟩) y hy))
          refine ⟨g, fun j u hj hu => h8 j u ?_, h9⟩
          rw [hc, List.getElem?_take_of_lt hj, List.getElem?_drop]; exact hu
        have hG : ∃ g : Nat → Nat → CV, ∀ i, i < m → (∀ j u, j < te.size → cs[i * te.size + j]? = some u → RP (fun b => b < w.heap.size) w (g i j) u) ∧ Shp E n e (g i) := by
          refine ⟨fun i => if hi : i < m then Classical.choose (hE i hi) else fun _ => .any, fun i hi => ?_⟩
          simp only [dif_pos hi]
          exact Classical.choose_spec (hE i hi)
        obtain ⟨g, hg⟩ := hG
        refine ⟨hcl, fun j => g (j / te.size) (j % te.size), fun j u hj => ?_, ?_⟩
        · have hjl := (List.getElem?_eq_some_iff.1 hj).1
          rw [hcl, ← hsz] at hjl
          have hq : j / te.size < m := (Nat.div_lt_iff_lt_mul (by omega)).2 hjl
          refine (hg _ hq).1 _ u (Nat.mod_lt _ (by omega)) ?_
          rw [Nat.mul_comm, Nat.div_add_mod]; exact hj
        · simp only [Shp, ht, hk, hte]
          intro i hi
          refine Shp.congr hT hte hs.2 (fun j hj => ?_) (hg i hi).2
          have e1 : (i * te.size + j) / te.size = i := by
            rw [Nat.mul_comm, Nat.mul_add_div (by omega), Nat.div_eq_of_lt hj, Nat.add_zero]
          have e2 : (i * te.size + j) % te.size = j := by
            rw [Nat.mul_comm, Nat.mul_add_mod, Nat.mod_eq_of_lt hj]
          rw [e1, e2]
    | ptr => rw [hk] at hs; cases hs
    | map k v => rw [hk] at hs; cases hs
    | func => rw [hk] at hs; cases hs
    | other => exact absurd hk hne
open Go.RowKit Go.ChangeShapes Go.WideShapes
theorem Evo.below {Z Z' : Nat → Prop} {w w' : World} (h : Evo (fun _ => False) Z w Z' w') : Go.RowKit.Below w.heap.size w w' :=
  ⟨h.os, h.tape, h.output, h.size, fun b hb => h.same b hb (fun hh => hh)⟩
def argTys (P : Program) (ts : List Nat) : Bool := ts.all fun t => P.readableRec t && decide (t < P.types.size)
theorem below_all (hl : laidOutB P = true) {W W' : World} (hb : Go.RowKit.Below W.heap.size W W') : ∀ {ts : List Nat} {vs : List Value} {ds : List (DataW H)} {ps : List MemPlace}, argTys P ts = true →
    DataW.TrodAll enc P W 0 (fun _ => true) true ts vs ds ps → (∀ x ∈ ps, x.block < W.heap.size) → DataW.TrodAll enc P W' 0 (fun b => decide (b < W.heap.size)) true ts vs ds ps
  | [], [], [], _, _, h, _ => h
  | [], [], _ :: _, _, _, h, _ => h.elim
  | [], _ :: _, _, _, _, h, _ => h.elim
  | _ :: _, [], _, _, _, h, _ => h.elim
  | _ :: _, _ :: _, [], _, _, h, _ => h.elim
  | t :: ts, v :: vs, d :: ds, ps, ha, h, hlt => by
    obtain ⟨p, q, h1, h2, rfl⟩ := h
    simp only [argTys, List.all_cons, Bool.and_eq_true, decide_eq_true_eq] at ha
    exact ⟨p, q, Below.trod hl ha.1.1 ha.1.2 h1 hb (fun x hx => hlt x (by simp [hx])), below_all hl hb (by simpa [argTys] using ha.2) h2 (fun x hx => hlt x (by simp [hx])), rfl⟩
theorem post_true {f : Func} {s : ChangeSpec} (hl : laidOutB P = true) {b : Nat} (hres : f.resultTypes = #[b]) (hb : P.underlying b = some .bool) (hargs : argTys P f.params.toList = true) (hvars : s.vars = [])
    {W W' : World} {args : Array Value} {ds gs : List (DataW H)} {before : List MemPlace} (hW : DataW.Whole enc P f.params.toList s.vars false W args.toList ds gs before)
    (hs : s.fn H (ds ++ gs) = { results := [.lit (.bool true)], args := ds }) (ev : Go.RowKit.Below W.heap.size W W') : s.post enc P f false true false false W args (.bool true) W' := by
  have hlt := hW.lt
  have hW' := hW
  obtain ⟨p, q, hA, hV, rfl, hfz, hnd⟩ := hW
  have hV' : DataW.TrodVars enc P W (fun _ => true) [] gs q := by rw [hvars] at hV; exact hV
  obtain ⟨rfl, rfl⟩ := trodVars_none hV'
  refine ⟨ds, [], p ++ [], [], p, [], hW', ?_, ?_, ?_, ev.frame _, fun h => by cases h⟩
  · rw [hs, hres]; exact trodAll_mk1 (shut_bool hb true)
  · rw [hs]; exact below_all hl ev hargs hA (fun x hx => hlt x (by simp [hx]))
  · rw [hs, hvars]; rfl
theorem okWide_one {r : Reach} {base : Nat} {t : TypeId} {v : Value} (h : Value.okWide P w r base t v) (hd : ∀ d, P.underlying t = some d → (∀ fs, d ≠ .struct fs) ∧ ∀ n e, d ≠ .array n e) : v.cells = #[v] := by
  cases v with
  | agg cs =>
    exfalso
    unfold Value.okWide at h
    split at h
    · rename_i fs hu; exact (hd _ hu).1 _ rfl
    · rename_i n e hu; exact (hd _ hu).2 _ _ rfl
    · unfold Cell.okWide at h
      split at h
      all_goals first
        | (rename_i h1; cases h1; done)
        | (rename_i h1 _; cases h1; done)
        | skip
      all_goals (unfold Cell.ok at h; split at h <;> first | exact h.elim | (rename_i h1; cases h1))
  | _ => rfl
theorem okWide_agg {r : Reach} {base : Nat} {t : TypeId} {v : Value} (h : Value.okWide P w r base t v) {d : TypeDesc} (hu : P.underlying t = some d) (hd : (∃ fs, d = .struct fs) ∨ ∃ n e, d = .array n e) : ∃ cs, v = .agg cs := by
  unfold Value.okWide at h
  rcases hd with ⟨fs, rfl⟩ | ⟨n, e, rfl⟩
  · rw [hu] at h
    obtain ⟨cs, rfl, _⟩ := h; exact ⟨cs, rfl⟩
  · rw [hu] at h
    obtain ⟨cs, rfl, _⟩ := h; exact ⟨cs, rfl⟩
def AllShp (E : Env) (n : Nat) : List Nat → List TV → Prop
  | [], [] => True
  | t :: ts, v :: vs => (∃ ti get, E.ty t = some ti ∧ v = mkTV ti get ∧ Shp E n t get) ∧ AllShp E n ts vs
  | _, _ => False
theorem AllShp.cons {E : Env} {n t : Nat} {ts : List Nat} {tvs : List TV} {ti : TI} (h : AllShp E n (t :: ts) tvs) (ht : E.ty t = some ti) : ∃ get rest, tvs = mkTV ti get :: rest ∧ Shp E n t get ∧ AllShp E n ts rest := by
  cases tvs with
  | nil => exact h.elim
  | cons v vs =>
    obtain ⟨⟨tj, get, h1, h2, h3⟩, h4⟩ := h
    obtain rfl := Option.some.inj (h1.symm.trans ht)
    exact ⟨get, vs, by rw [h2], h3, h4⟩
theorem AllShp.nil {E : Env} {n : Nat} {tvs : List TV} (h : AllShp E n [] tvs) : tvs = [] := by
  cases tvs with
  | nil => rfl
  | cons v vs => exact h.elim
def allShB (E : Env) (n : Nat) (ts : List Nat) : Bool := ts.all fun t => (E.ty t).isSome && shapeB E n t
theorem shape_val (hT : TabOk P E) {n t : Nat} {ti : TI} {r : Reach} {base : Nat} {v : Value} {d : DataW H} {ps : List MemPlace} (ht : E.ty t = some ti) (hs : shapeB E n t = true) (hval : Value.okWide P w r base t v)
    (hd : DataW.Trod enc P w 0 (fun _ => true) true t v d ps) (hw : ∀ y ∈ d.weights P t, y ≤ reachBytes) : ∃ get, RT (fun _ => .no) (fun b => b < w.heap.size) w (mkTV ti get) v ∧ Shp E n t get := by
  obtain ⟨fuel, hf⟩ := hd
  obtain ⟨hlen, get, h1, h2⟩ := trod_shape hT ht hs hf hw
  refine ⟨get, ?_, h2⟩
  obtain ⟨i, ds, z, hF⟩ := tabTI_spec (hT t ti ht).1
  have hkind := hF.kind
  unfold mkTV TI.isAgg
  have hagg : (∃ fs, ds = .struct fs) ∨ (∃ n e, ds = .array n e) ∨ ((∀ fs, ds ≠ .struct fs) ∧ ∀ n e, ds ≠ .array n e) := by
    cases ds with
    | struct fs => exact .inl ⟨_, rfl⟩
    | array n e => exact .inr (.inl ⟨_, _, rfl⟩)
    | _ => exact .inr (.inr ⟨fun _ h => by (cases h), fun _ _ h => by (cases h)⟩)
  cases hk : ti.kind.isAgg with
  | true =>
    simp only [if_true]
    obtain ⟨cs, rfl⟩ := okWide_agg hval hF.und (by
      rcases hagg with h | h | h
      · exact .inl h
      · exact .inr h
      · exfalso
        cases e : ti.kind with
        | struct l => obtain ⟨fs, e1, _⟩ := hF.struct e; exact h.1 _ e1
        | array m e' => exact h.2 _ _ (hF.array e).1
        | _ => rw [e] at hk; cases hk)
    refine ⟨cs, rfl, by simpa [Value.cells] using hlen, fun j hj => ?_⟩
    have hj' : j < cs.size := by have : cs.size = ti.size := by simpa [Value.cells] using hlen
                                 omega
    exact ⟨cs[j], by simp [hj'], RC.of_RP (h1 j _ (by simp [Value.cells, hj']))⟩
  | false =>
    simp only [Bool.false_eq_true, if_false]
    have hc := okWide_one hval (fun d' hd' => by
      obtain rfl : d' = ds := Option.some.inj (hd'.symm.trans hF.und)
      rcases hagg with ⟨fs, rfl⟩ | ⟨m, e, rfl⟩ | h
      · exfalso
        simp only [kindOf] at hkind
        split at hkind
        · injection hkind with hkind; rw [← hkind] at hk; cases hk
        · injection hkind with hkind; exact (hT t ti ht).2 hkind.symm
      · exfalso
        simp only [kindOf] at hkind
        split at hkind
        · injection hkind with hkind; rw [← hkind] at hk; cases hk
        · injection hkind with hkind; exact (hT t ti ht).2 hkind.symm
      · exact h)
    exact RC.of_RP (h1 0 v (by rw [hc]; rfl))
theorem shape_all (hT : TabOk P E) {n : Nat} {r : Reach} {base : Nat} : ∀ {ts : List Nat} {vs : List Value} {ds : List (DataW H)} {ps : List MemPlace}, allShB E n ts = true → (∀ (j : Nat) t v, ts[j]? = some t → vs[j]? = some v → Value.okWide P w r base t v) →
    DataW.TrodAll enc P w 0 (fun _ => true) true ts vs ds ps → (∀ y ∈ DataW.weightsEach P ts ds, y ≤ reachBytes) → ∃ tvs, AllShp E n ts tvs ∧ RL (fun _ => .no) (fun b => b < w.heap.size) w tvs vs ∧ ds.length = ts.length
  | [], [], [], _, _, _, _, _ => ⟨[], trivial, trivial, rfl⟩
  | [], [], _ :: _, _, _, _, h, _ => h.elim
  | [], _ :: _, _, _, _, _, h, _ => h.elim
  | _ :: _, [], _, _, _, _, h, _ => h.elim
  | _ :: _, _ :: _, [], _, _, _, h, _ => h.elim
  | t :: ts, v :: vs, d :: ds, ps, ha, hv, h, hw => by
    obtain ⟨p, q, h1, h2, rfl⟩ := h
    simp only [allShB, List.all_cons, Bool.and_eq_true] at ha
    obtain ⟨ti, hti⟩ := Option.isSome_iff_exists.1 ha.1.1
    simp only [DataW.weightsEach, List.mem_append] at hw
    obtain ⟨get, a1, a2⟩ := shape_val hT hti ha.1.2 (hv 0 t v rfl rfl) h1 (fun y hy => hw y (.inl hy))
    obtain ⟨tvs, b1, b2, b3⟩ := shape_all hT (by simpa [allShB] using ha.2) (fun j t' v' e1 e2 => hv (j + 1) t' v' (by simpa using e1) (by simpa using e2)) h2 (fun y hy => hw y (.inr hy))
    exact ⟨mkTV ti get :: tvs, ⟨⟨ti, get, hti, rfl, a2⟩, b1⟩, ⟨a1, b2⟩, by simp [b3]⟩
theorem law_calls (hT : TabOk P E) {f : FuncId} {fn : Func} {s : ChangeSpec} {n : Nat} (hsh : allShB E n fn.params.toList = true) (hl : laidOutB P = true) {b : Nat} (hres : fn.resultTypes = #[b]) (hb : P.underlying b = some .bool)
    (hargs : argTys P fn.params.toList = true) (hvars : s.vars = []) (hs : ∀ ds : List (DataW H), ds.length = fn.params.size → s.fn H ds = { results := [.lit (.bool true)], args := ds })
    (hq : ∀ tvs, AllShp E n fn.params.toList tvs → CallQ P E f tvs [.v (.c (.bool true))])
    {W : World} {r : Reach} {base : Nat} {args : Array Value} {ds gs : List (DataW H)} {before : List MemPlace}
    (hval : ∀ (j : Nat) t v, fn.params[j]? = some t → args[j]? = some v → Value.okWide P W r base t v)
    (hW : DataW.Whole enc P fn.params.toList s.vars false W args.toList ds gs before)
    (hwt : (DataW.weightsEach P (fn.params.toList ++ s.plain.varTypes P) (ds ++ gs)).all (· ≤ reachBytes) = true)
    (hgl : GlOk E (fun b => b < W.heap.size) W) :
    Calls P f args W fun e W' => ∃ v, e = .returned v ∧ s.post enc P fn false true false false W args v W' := by
  have hW' := hW
  obtain ⟨p, q, hA, hV, rfl, hfz, hnd⟩ := hW
  have hV' : DataW.TrodVars enc P W (fun _ => true) [] gs q := by rw [hvars] at hV; exact hV
  obtain ⟨rfl, rfl⟩ := trodVars_none hV'
  have hvt : s.plain.varTypes P = [] := by
    unfold DataSpec.varTypes ChangeSpec.plain
    rw [hvars]; rfl
  simp only [hvt, List.append_nil, List.all_eq_true, decide_eq_true_eq] at hwt
  obtain ⟨tvs, a1, a2, a3⟩ := shape_all hT hsh (fun j t v e1 e2 => hval j t v (by simpa using e1) (by simpa using e2)) hA hwt
  have hc := hq tvs a1 (fun b => b < W.heap.size) W args.toList ⟨fun _ _ h => by (cases h), fun _ _ _ _ h => by (cases h), fun _ _ _ _ _ _ _ h => by (cases h), fun b hb => hb, fun _ _ => rfl, hgl⟩ a2
  rw [Array.toArray_toList] at hc
  refine (callsIn_wide.1 hc).mono fun e W' hp => ?_
  obtain ⟨val, β', Z', rfl, _, h3, h4, _, _⟩ := hp
  obtain rfl : val = .bool true := h3
  exact ⟨_, rfl, post_true hl hres hb hargs hvars hW' (by rw [List.append_nil]; exact hs _ (by simpa using a3)) h4.below⟩
end
end Go.Sx
