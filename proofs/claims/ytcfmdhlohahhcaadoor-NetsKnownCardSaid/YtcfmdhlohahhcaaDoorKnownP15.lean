/- Texts for the law of the last part, part 15. -/
import Derived.Test.YtcfmdhlohahhcaaDoorKnownP14
set_option linter.unusedSimpArgs false
set_option linter.unusedVariables false
namespace Go.Proofs.YtcfmdhlohahhcaaDoor
open Go Go.Sx Nm
set_option maxRecDepth 100000
def one (args : List TV) (res : List RV) : Sig := ⟨Unit, fun _ => args, fun _ => True, fun _ => res⟩
def s28 : Sig := one [torn3, lists [[0, 1, 4], [1, 2]]] [.v (intC 42), .v (.c (.bool true)), .v (intC 0)]
def s32 : Sig := one [torn4] [.v (intC 52), .v (intC 0)]
def s34 : Sig := one [torn3] [.v (lists [[2, 1, 0], [1, 4]]), .v (intC 0)]
def flX (l : List (List Int)) : Fleet := ⟨3, fun _ j => if j = 0 then 10 else 20, 3, fun _ _ => 0, 5, 2, fun i j => (l.getD i []).getD j 0⟩
def fl0 : Fleet := flX [[0, 0, 100, 1, 0, 3, 0, 0, 0, 0], [25, 0, 100, 1, 1, 3, 0, 0, 0, 0]]
def fl1 : Fleet := flX [[0, 0, 100, 1, 0, 3, 0, 0, 0, 0], [50, 0, 100, 1, 1, 3, -4, 0, 0, 0]]
def tr0 (l : List Int) : Truth := ⟨3, fun i => l.getD i 0, 3, fun _ => 0, 2, fun _ => 0, 2, fun _ => 0⟩
theorem all3 {P : Nat → Prop} (h0 : P 0) (h1 : P 1) (h2 : P 2) : ∀ i, i < 3 → P i
 | 0, _ => h0
 | 1, _ => h1
 | 2, _ => h2
theorem all2 {P : Nat → Prop} (h0 : P 0) (h1 : P 1) : ∀ i, i < 2 → P i
 | 0, _ => h0
 | 1, _ => h1
theorem all4 {P : Nat → Prop} (h0 : P 0) (h1 : P 1) (h2 : P 2) (h3 : P 3) : ∀ i, i < 3 + 1 → P i
 | 0, _ => h0
 | 1, _ => h1
 | 2, _ => h2
 | 3, _ => h3
theorem q21 : CallQ Tryd.prog E0 21 [] [.v (.c (.bool true))] := by
 refine bare_say E0_ok [(28, s28), (32, s32), (34, s34), (26, sShift), (24, sCanF), (22, sApart), (19, sFouls), (15, sLies), (46, sTwo), (41, sTwo)] (show SigsOk Tryd.prog E0 [(28, s28), (32, s32), (34, s34), (26, sShift), (24, sCanF), (22, sApart), (19, sFouls), (15, sLies), (46, sTwo), (41, sTwo)] from ((((((((((SigsOk.nil.cons u41 fun x _ => q41 x).cons u46 fun x _ => q46 x).cons u15 q15).cons u19 q19).cons u22 q22).cons u24 q24).cons u26 q26).cons u34 fun _ _ => t34).cons u32 fun _ _ => t32).cons u28 fun _ _ => t28)) [] EvensOk.nil runs { live := true } (fuel := 8) ?_
 refine of_red (q := ∃ (x : Int × Int), ((True∧(10 : Int) = x.fst)∧(True∧(20 : Int) = x.snd)∧True)∧True∧∃ (x_1 : Int × Int), ((True∧(10 : Int) = x_1.fst)∧(True∧(20 : Int) = x_1.snd)∧True)∧True∧∃ (x_2 : Int × Int), ((True∧(10 : Int) = x_2.fst)∧(True∧(20 : Int) = x_2.snd)∧True)∧True∧(0 : Int)≤(3 : Int)∧(3 : Int) = (3 : Int)∧(↑(16 : Nat) : Int) * (3 : Int)≤(140737488355328 : Int)∧(3 : Int) < (4611686018427387904 : Int)∧∃ (x_3 : Int × Int), ((True∧(25 : Int) = x_3.fst)∧(True∧(0 : Int) = x_3.snd)∧True)∧True∧∃ (x_4 : LAsk), ((True∧(((True∧True∧True∧(3 : Nat) = x_4.x.hE∧∀ (i : Nat), i < (3 : Nat)→(True∧(if i = (2 : Nat) then x_2.fst else if i = (1 : Nat) then x_1.fst else if i = (0 : Nat) then x.fst else (0 : Int)) = x_4.x.e i 0)∧(if i = (2 : Nat) then x_2.snd else if i = (1 : Nat) then x_1.snd else if i = (0 : Nat) then x.snd else (0 : Int)) = x_4.x.e i 1)∧True∧True∧(3 : Nat) = x_4.x.hN∧∀ (i : Nat), i < (3 : Nat)→(True∧(0 : Int) = x_4.x.n i 0)∧(0 : Int) = x_4.x.n i 1)∧True∧(5 : Int) = x_4.x.gap)∧True∧True∧(2 : Nat) = x_4.x.k∧∀ (i : Nat), i < (2 : Nat)→(((((((((True∧(if i = (1 : Nat) then x_3.fst else if i = (0 : Nat) then (0 : Int) else (0 : Int)) = x_4.x.net i 0)∧(if i = (1 : Nat) then x_3.snd else if i = (0 : Nat) then (0 : Int) else (0 : Int)) = x_4.x.net i 1)∧(if i = (1 : Nat) then (100 : Int) else if i = (0 : Nat) then (100 : Int) else (0 : Int)) = x_4.x.net i 2)∧(if i = (1 : Nat) then (1 : Int) else if i = (0 : Nat) then (1 : Int) else (0 : Int)) = x_4.x.net i 3)∧(if i = (1 : Nat) then (1 : Int) else if i = (0 : Nat) then (0 : Int) else (0 : Int)) = x_4.x.net i 4)∧(if i = (1 : Nat) then (3 : Int) else if i = (0 : Nat) then (3 : Int) else (0 : Int)) = x_4.x.net i 5)∧(if i = (1 : Nat) then (0 : Int) else if i = (0 : Nat) then (0 : Int) else (0 : Int)) = x_4.x.net i 6)∧(if i = (1 : Nat) then (0 : Int) else if i = (0 : Nat) then (0 : Int) else (0 : Int)) = x_4.x.net i 7)∧(if i = (1 : Nat) then (0 : Int) else if i = (0 : Nat) then (0 : Int) else (0 : Int)) = x_4.x.net i 8)∧(if i = (1 : Nat) then (0 : Int) else if i = (0 : Nat) then (0 : Int) else (0 : Int)) = x_4.x.net i 9)∧(True∧(((True∧True∧True∧(3 : Nat) = x_4.t.nE∧∀ (i : Nat), i < (3 : Nat)→True∧(if i = (2 : Nat) then (14 : Int) else if i = (1 : Nat) then (12 : Int) else if i = (0 : Nat) then (10 : Int) else (0 : Int)) = x_4.t.e i)∧True∧True∧(3 : Nat) = x_4.t.nN∧∀ (i : Nat), i < (3 : Nat)→True∧(if i = (2 : Nat) then (0 : Int) else if i = (1 : Nat) then (0 : Int) else if i = (0 : Nat) then (0 : Int) else (0 : Int)) = x_4.t.n i)∧True∧True∧(2 : Nat) = x_4.t.nSE∧∀ (i : Nat), i < (2 : Nat)→True∧(if i = (1 : Nat) then (0 : Int) else if i = (0 : Nat) then (0 : Int) else (0 : Int)) = x_4.t.se i)∧True∧True∧(2 : Nat) = x_4.t.nSN∧∀ (i : Nat), i < (2 : Nat)→True∧(if i = (1 : Nat) then (0 : Int) else if i = (0 : Nat) then (0 : Int) else (0 : Int)) = x_4.t.sn i)∧(True∧(1 : Int) = x_4.k)∧(True∧(3 : Int) = x_4.h)∧True)∧((x_4.x.hE < (4611686018427387904 : Nat)∧x_4.x.hN < (4611686018427387904 : Nat)∧x_4.x.k < (4611686018427387904 : Nat))∧x_4.t.nE < (4611686018427387904 : Nat)∧x_4.t.nN < (4611686018427387904 : Nat)∧x_4.t.nSE < (4611686018427387904 : Nat)∧x_4.t.nSN < (4611686018427387904 : Nat))∧∃ (x : Int × Int), ((True∧(10 : Int) = x.fst)∧(True∧(20 : Int) = x.snd)∧True)∧True∧∃ (x_5 : Int × Int), ((True∧(10 : Int) = x_5.fst)∧(True∧(20 : Int) = x_5.snd)∧True)∧True∧∃ (x_6 : Int × Int), ((True∧(10 : Int) = x_6.fst)∧(True∧(20 : Int) = x_6.snd)∧True)∧True∧(0 : Int)≤(3 : Int)∧(3 : Int) = (3 : Int)∧(↑(16 : Nat) : Int) * (3 : Int)≤(140737488355328 : Int)∧(3 : Int) < (4611686018427387904 : Int)∧∃ (x_7 : Int × Int), ((True∧(25 : Int) = x_7.fst)∧(True∧(0 : Int) = x_7.snd)∧True)∧True∧∃ (x_8 : Fleet × Truth), ((True∧(((True∧True∧True∧(3 : Nat) = x_8.fst.hE∧∀ (i : Nat), i < (3 : Nat)→(True∧(if i = (2 : Nat) then x_6.fst else if i = (1 : Nat) then x_5.fst else if i = (0 : Nat) then x.fst else (0 : Int)) = x_8.fst.e i 0)∧(if i = (2 : Nat) then x_6.snd else if i = (1 : Nat) then x_5.snd else if i = (0 : Nat) then x.snd else (0 : Int)) = x_8.fst.e i 1)∧True∧True∧(3 : Nat) = x_8.fst.hN∧∀ (i : Nat), i < (3 : Nat)→(True∧(0 : Int) = x_8.fst.n i 0)∧(0 : Int) = x_8.fst.n i 1)∧True∧(5 : Int) = x_8.fst.gap)∧True∧True∧(2 : Nat) = x_8.fst.k∧∀ (i : Nat), i < (2 : Nat)→(((((((((True∧(if i = (1 : Nat) then x_7.fst else if i = (0 : Nat) then (0 : Int) else (0 : Int)) = x_8.fst.net i 0)∧(if i = (1 : Nat) then x_7.snd else if i = (0 : Nat) then (0 : Int) else (0 : Int)) = x_8.fst.net i 1)∧(if i = (1 : Nat) then (100 : Int) else if i = (0 : Nat) then (100 : Int) else (0 : Int)) = x_8.fst.net i 2)∧(if i = (1 : Nat) then (1 : Int) else if i = (0 : Nat) then (1 : Int) else (0 : Int)) = x_8.fst.net i 3)∧(if i = (1 : Nat) then (1 : Int) else if i = (0 : Nat) then (0 : Int) else (0 : Int)) = x_8.fst.net i 4)∧(if i = (1 : Nat) then (3 : Int) else if i = (0 : Nat) then (3 : Int) else (0 : Int)) = x_8.fst.net i 5)∧(if i = (1 : Nat) then (0 : Int) else if i = (0 : Nat) then (0 : Int) else (0 : Int)) = x_8.fst.net i 6)∧(if i = (1 : Nat) then (0 : Int) else if i = (0 : Nat) then (0 : Int) else (0 : Int)) = x_8.fst.net i 7)∧(if i = (1 : Nat) then (0 : Int) else if i = (0 : Nat) then (0 : Int) else (0 : Int)) = x_8.fst.net i 8)∧(if i = (1 : Nat) then (0 : Int) else if i = (0 : Nat) then (0 : Int) else (0 : Int)) = x_8.fst.net i 9)∧(True∧(((True∧True∧True∧(3 : Nat) = x_8.snd.nE∧∀ (i : Nat), i < (3 : Nat)→True∧(if i = (2 : Nat) then (10 : Int) else if i = (1 : Nat) then (10 : Int) else if i = (0 : Nat) then (20 : Int) else (0 : Int)) = x_8.snd.e i)∧True∧True∧(3 : Nat) = x_8.snd.nN∧∀ (i : Nat), i < (3 : Nat)→True∧(if i = (2 : Nat) then (0 : Int) else if i = (1 : Nat) then (0 : Int) else if i = (0 : Nat) then (0 : Int) else (0 : Int)) = x_8.snd.n i)∧True∧True∧(2 : Nat) = x_8.snd.nSE∧∀ (i : Nat), i < (2 : Nat)→True∧(if i = (1 : Nat) then (0 : Int) else if i = (0 : Nat) then (0 : Int) else (0 : Int)) = x_8.snd.se i)∧True∧True∧(2 : Nat) = x_8.snd.nSN∧∀ (i : Nat), i < (2 : Nat)→True∧(if i = (1 : Nat) then (0 : Int) else if i = (0 : Nat) then (0 : Int) else (0 : Int)) = x_8.snd.sn i)∧True)∧((x_8.fst.hE < (4611686018427387904 : Nat)∧x_8.fst.hN < (4611686018427387904 : Nat)∧x_8.fst.k < (4611686018427387904 : Nat))∧x_8.snd.nE < (4611686018427387904 : Nat)∧x_8.snd.nN < (4611686018427387904 : Nat)∧x_8.snd.nSE < (4611686018427387904 : Nat)∧x_8.snd.nSN < (4611686018427387904 : Nat))∧∃ (x : Int × Int), ((True∧(10 : Int) = x.fst)∧(True∧(20 : Int) = x.snd)∧True)∧True∧∃ (x_9 : Int × Int), ((True∧(10 : Int) = x_9.fst)∧(True∧(20 : Int) = x_9.snd)∧True)∧True∧∃ (x_10 : Int × Int), ((True∧(10 : Int) = x_10.fst)∧(True∧(20 : Int) = x_10.snd)∧True)∧True∧(0 : Int)≤(3 : Int)∧(3 : Int) = (3 : Int)∧(↑(16 : Nat) : Int) * (3 : Int)≤(140737488355328 : Int)∧(3 : Int) < (4611686018427387904 : Int)∧∃ (x_11 : Int × Int), ((True∧(25 : Int) = x_11.fst)∧(True∧(0 : Int) = x_11.snd)∧True)∧True∧(0 : Int)≤(1 : Int)∧(1 : Int) < (↑(2 : Nat) : Int)∧∃ (x_12 : Int × Int), ((True∧(-4 : Int) = x_12.fst)∧(True∧(0 : Int) = x_12.snd)∧True)∧True∧(0 : Int)≤(1 : Int)∧(1 : Int) < (↑(2 : Nat) : Int)∧∃ (x_13 : QAsk), ((True∧(((True∧True∧True∧(3 : Nat) = x_13.x.hE∧∀ (i : Nat), i < (3 : Nat)→(True∧(if i = (2 : Nat) then x_10.fst else if i = (1 : Nat) then x_9.fst else if i = (0 : Nat) then x.fst else (0 : Int)) = x_13.x.e i 0)∧(if i = (2 : Nat) then x_10.snd else if i = (1 : Nat) then x_9.snd else if i = (0 : Nat) then x.snd else (0 : Int)) = x_13.x.e i 1)∧True∧True∧(3 : Nat) = x_13.x.hN∧∀ (i : Nat), i < (3 : Nat)→(True∧(0 : Int) = x_13.x.n i 0)∧(0 : Int) = x_13.x.n i 1)∧True∧(5 : Int) = x_13.x.gap)∧True∧True∧(2 : Nat) = x_13.x.k∧∀ (i : Nat), i < (2 : Nat)→(((((((((True∧(if i = (1 : Nat) then (50 : Int) else if i = (1 : Nat) then (50 : Int) else if i = (1 : Nat) then x_11.fst else if i = (0 : Nat) then (0 : Int) else (0 : Int)) = x_13.x.net i 0)∧(if i = (1 : Nat) then x_11.snd else if i = (1 : Nat) then x_11.snd else if i = (1 : Nat) then x_11.snd else if i = (0 : Nat) then (0 : Int) else (0 : Int)) = x_13.x.net i 1)∧(if i = (1 : Nat) then (100 : Int) else if i = (1 : Nat) then (100 : Int) else if i = (1 : Nat) then (100 : Int) else if i = (0 : Nat) then (100 : Int) else (0 : Int)) = x_13.x.net i 2)∧(if i = (1 : Nat) then (1 : Int) else if i = (1 : Nat) then (1 : Int) else if i = (1 : Nat) then (1 : Int) else if i = (0 : Nat) then (1 : Int) else (0 : Int)) = x_13.x.net i 3)∧(if i = (1 : Nat) then (1 : Int) else if i = (1 : Nat) then (1 : Int) else if i = (1 : Nat) then (1 : Int) else if i = (0 : Nat) then (0 : Int) else (0 : Int)) = x_13.x.net i 4)∧(if i = (1 : Nat) then (3 : Int) else if i = (1 : Nat) then (3 : Int) else if i = (1 : Nat) then (3 : Int) else if i = (0 : Nat) then (3 : Int) else (0 : Int)) = x_13.x.net i 5)∧(if i = (1 : Nat) then x_12.fst else if i = (1 : Nat) then (0 : Int) else if i = (1 : Nat) then (0 : Int) else if i = (0 : Nat) then (0 : Int) else (0 : Int)) = x_13.x.net i 6)∧(if i = (1 : Nat) then x_12.snd else if i = (1 : Nat) then (0 : Int) else if i = (1 : Nat) then (0 : Int) else if i = (0 : Nat) then (0 : Int) else (0 : Int)) = x_13.x.net i 7)∧(if i = (1 : Nat) then (0 : Int) else if i = (1 : Nat) then (0 : Int) else if i = (1 : Nat) then (0 : Int) else if i = (0 : Nat) then (0 : Int) else (0 : Int)) = x_13.x.net i 8)∧(if i = (1 : Nat) then (0 : Int) else if i = (1 : Nat) then (0 : Int) else if i = (1 : Nat) then (0 : Int) else if i = (0 : Nat) then (0 : Int) else (0 : Int)) = x_13.x.net i 9)∧(True∧(0 : Int) = x_13.i)∧(True∧(1 : Int) = x_13.k)∧(True∧(3 : Int) = x_13.h)∧True)∧(x_13.x.hE < (4611686018427387904 : Nat)∧x_13.x.hN < (4611686018427387904 : Nat)∧x_13.x.k < (4611686018427387904 : Nat))∧∃ (x : Int × Int), ((True∧(10 : Int) = x.fst)∧(True∧(20 : Int) = x.snd)∧True)∧True∧∃ (x_14 : Int × Int), ((True∧(10 : Int) = x_14.fst)∧(True∧(20 : Int) = x_14.snd)∧True)∧True∧∃ (x_15 : Int × Int), ((True∧(10 : Int) = x_15.fst)∧(True∧(20 : Int) = x_15.snd)∧True)∧True∧(0 : Int)≤(3 : Int)∧(3 : Int) = (3 : Int)∧(↑(16 : Nat) : Int) * (3 : Int)≤(140737488355328 : Int)∧(3 : Int) < (4611686018427387904 : Int)∧∃ (x_16 : Int × Int), ((True∧(25 : Int) = x_16.fst)∧(True∧(0 : Int) = x_16.snd)∧True)∧True∧∃ (x_17 : Fleet), ((True∧(((True∧True∧True∧(3 : Nat) = x_17.hE∧∀ (i : Nat), i < (3 : Nat)→(True∧(if i = (2 : Nat) then x_15.fst else if i = (1 : Nat) then x_14.fst else if i = (0 : Nat) then x.fst else (0 : Int)) = x_17.e i 0)∧(if i = (2 : Nat) then x_15.snd else if i = (1 : Nat) then x_14.snd else if i = (0 : Nat) then x.snd else (0 : Int)) = x_17.e i 1)∧True∧True∧(3 : Nat) = x_17.hN∧∀ (i : Nat), i < (3 : Nat)→(True∧(0 : Int) = x_17.n i 0)∧(0 : Int) = x_17.n i 1)∧True∧(5 : Int) = x_17.gap)∧True∧True∧(2 : Nat) = x_17.k∧∀ (i : Nat), i < (2 : Nat)→(((((((((True∧(if i = (1 : Nat) then x_16.fst else if i = (0 : Nat) then (0 : Int) else (0 : Int)) = x_17.net i 0)∧(if i = (1 : Nat) then x_16.snd else if i = (0 : Nat) then (0 : Int) else (0 : Int)) = x_17.net i 1)∧(if i = (1 : Nat) then (100 : Int) else if i = (0 : Nat) then (100 : Int) else (0 : Int)) = x_17.net i 2)∧(if i = (1 : Nat) then (1 : Int) else if i = (0 : Nat) then (1 : Int) else (0 : Int)) = x_17.net i 3)∧(if i = (1 : Nat) then (1 : Int) else if i = (0 : Nat) then (0 : Int) else (0 : Int)) = x_17.net i 4)∧(if i = (1 : Nat) then (3 : Int) else if i = (0 : Nat) then (3 : Int) else (0 : Int)) = x_17.net i 5)∧(if i = (1 : Nat) then (0 : Int) else if i = (0 : Nat) then (0 : Int) else (0 : Int)) = x_17.net i 6)∧(if i = (1 : Nat) then (0 : Int) else if i = (0 : Nat) then (0 : Int) else (0 : Int)) = x_17.net i 7)∧(if i = (1 : Nat) then (0 : Int) else if i = (0 : Nat) then (0 : Int) else (0 : Int)) = x_17.net i 8)∧(if i = (1 : Nat) then (0 : Int) else if i = (0 : Nat) then (0 : Int) else (0 : Int)) = x_17.net i 9)∧True)∧(x_17.hE < (4611686018427387904 : Nat)∧x_17.hN < (4611686018427387904 : Nat)∧x_17.k < (4611686018427387904 : Nat))∧∃ (x : Int × Int), ((True∧(10 : Int) = x.fst)∧(True∧(20 : Int) = x.snd)∧True)∧True∧∃ (x_18 : Int × Int), ((True∧(10 : Int) = x_18.fst)∧(True∧(20 : Int) = x_18.snd)∧True)∧True∧∃ (x_19 : Int × Int), ((True∧(10 : Int) = x_19.fst)∧(True∧(20 : Int) = x_19.snd)∧True)∧True∧(0 : Int)≤(3 : Int)∧(3 : Int) = (3 : Int)∧(↑(16 : Nat) : Int) * (3 : Int)≤(140737488355328 : Int)∧(3 : Int) < (4611686018427387904 : Int)∧∃ (x_20 : Int × Int), ((True∧(25 : Int) = x_20.fst)∧(True∧(0 : Int) = x_20.snd)∧True)∧True∧∃ (x_21 : Fleet × Int × Int), ((True∧(((True∧True∧True∧(3 : Nat) = x_21.fst.hE∧∀ (i : Nat), i < (3 : Nat)→(True∧(if i = (2 : Nat) then x_19.fst else if i = (1 : Nat) then x_18.fst else if i = (0 : Nat) then x.fst else (0 : Int)) = x_21.fst.e i 0)∧(if i = (2 : Nat) then x_19.snd else if i = (1 : Nat) then x_18.snd else if i = (0 : Nat) then x.snd else (0 : Int)) = x_21.fst.e i 1)∧True∧True∧(3 : Nat) = x_21.fst.hN∧∀ (i : Nat), i < (3 : Nat)→(True∧(0 : Int) = x_21.fst.n i 0)∧(0 : Int) = x_21.fst.n i 1)∧True∧(5 : Int) = x_21.fst.gap)∧True∧True∧(2 : Nat) = x_21.fst.k∧∀ (i : Nat), i < (2 : Nat)→(((((((((True∧(if i = (1 : Nat) then x_20.fst else if i = (0 : Nat) then (0 : Int) else (0 : Int)) = x_21.fst.net i 0)∧(if i = (1 : Nat) then x_20.snd else if i = (0 : Nat) then (0 : Int) else (0 : Int)) = x_21.fst.net i 1)∧(if i = (1 : Nat) then (100 : Int) else if i = (0 : Nat) then (100 : Int) else (0 : Int)) = x_21.fst.net i 2)∧(if i = (1 : Nat) then (1 : Int) else if i = (0 : Nat) then (1 : Int) else (0 : Int)) = x_21.fst.net i 3)∧(if i = (1 : Nat) then (1 : Int) else if i = (0 : Nat) then (0 : Int) else (0 : Int)) = x_21.fst.net i 4)∧(if i = (1 : Nat) then (3 : Int) else if i = (0 : Nat) then (3 : Int) else (0 : Int)) = x_21.fst.net i 5)∧(if i = (1 : Nat) then (0 : Int) else if i = (0 : Nat) then (0 : Int) else (0 : Int)) = x_21.fst.net i 6)∧(if i = (1 : Nat) then (0 : Int) else if i = (0 : Nat) then (0 : Int) else (0 : Int)) = x_21.fst.net i 7)∧(if i = (1 : Nat) then (0 : Int) else if i = (0 : Nat) then (0 : Int) else (0 : Int)) = x_21.fst.net i 8)∧(if i = (1 : Nat) then (0 : Int) else if i = (0 : Nat) then (0 : Int) else (0 : Int)) = x_21.fst.net i 9)∧(True∧(1 : Int) = x_21.snd.fst)∧(True∧(100 : Int) = x_21.snd.snd)∧True)∧(x_21.fst.hE < (4611686018427387904 : Nat)∧x_21.fst.hN < (4611686018427387904 : Nat)∧x_21.fst.k < (4611686018427387904 : Nat))∧((liErr x_4.x x_4.t x_4.k x_4.h != (0 : Int)) = true→True∧true = false)∧((liErr x_4.x x_4.t x_4.k x_4.h != (0 : Int)) = false→((fouE x_8.fst x_8.snd != (0 : Int)) = true→True∧true = false)∧((fouE x_8.fst x_8.snd != (0 : Int)) = false→((aqE x_13 != (0 : Int)) = true→True∧true = false)∧((aqE x_13 != (0 : Int)) = false→((canE x_17 != (0 : Int)) = true→True∧true = false)∧((canE x_17 != (0 : Int)) = false→((shE x_21.fst x_21.snd.fst x_21.snd.snd != (0 : Int)) = true→True∧true = false)∧((shE x_21.fst x_21.snd.fst x_21.snd.snd != (0 : Int)) = false→∃ (x : Int × Int), ((True∧(51 : Int) = x.fst)∧(True∧(0 : Int) = x.snd)∧True)∧True∧((!(liR x_4.x x_4.t x_4.k x_4.h (liP x_4.x x_4.t.e x_4.t.se (0 : Nat) x_4.k.toNat x_4.h) == x.fst && (liR x_4.x x_4.t x_4.k x_4.h (liP x_4.x x_4.t.n x_4.t.sn (1 : Nat) x_4.k.toNat x_4.h) == x.snd && true))) = true→True∧true = false)∧((!(liR x_4.x x_4.t x_4.k x_4.h (liP x_4.x x_4.t.e x_4.t.se (0 : Nat) x_4.k.toNat x_4.h) == x.fst && (liR x_4.x x_4.t x_4.k x_4.h (liP x_4.x x_4.t.n x_4.t.sn (1 : Nat) x_4.k.toNat x_4.h) == x.snd && true))) = false→((!(oH (fouO x_8.fst x_8.snd) == (1 : Int) && (oI (fouO x_8.fst x_8.snd) == (0 : Int) && (oK (fouO x_8.fst x_8.snd) == (1 : Int) && true)))) = true→True∧true = false)∧((!(oH (fouO x_8.fst x_8.snd) == (1 : Int) && (oI (fouO x_8.fst x_8.snd) == (0 : Int) && (oK (fouO x_8.fst x_8.snd) == (1 : Int) && true)))) = false→∃ (x : Int × Int), ((True∧(-40 : Int) = x.fst)∧(True∧(-22 : Int) = x.snd)∧True)∧True∧((!(aqR x_13 (raLo (rE x_13.x x_13.i.toNat x_13.k.toNat x_13.h.toNat)) == x.fst && (aqR x_13 (raHi (rE x_13.x x_13.i.toNat x_13.k.toNat x_13.h.toNat)) == x.snd && true))) = true→True∧true = false)∧((!(aqR x_13 (raLo (rE x_13.x x_13.i.toNat x_13.k.toNat x_13.h.toNat)) == x.fst && (aqR x_13 (raHi (rE x_13.x x_13.i.toNat x_13.k.toNat x_13.h.toNat)) == x.snd && true))) = false→∃ (x : Int × Int), ((True∧(0 : Int) = x.fst)∧(True∧(0 : Int) = x.snd)∧True)∧True∧((!(aqR x_13 (raLo (rN x_13.x x_13.i.toNat x_13.k.toNat x_13.h.toNat)) == x.fst && (aqR x_13 (raHi (rN x_13.x x_13.i.toNat x_13.k.toNat x_13.h.toNat)) == x.snd && true))) = true→True∧true = false)∧((!(aqR x_13 (raLo (rN x_13.x x_13.i.toNat x_13.k.toNat x_13.h.toNat)) == x.fst && (aqR x_13 (raHi (rN x_13.x x_13.i.toNat x_13.k.toNat x_13.h.toNat)) == x.snd && true))) = false→((!(oH (canO x_17) == oH (fouO x_8.fst x_8.snd) && (oI (canO x_17) == oI (fouO x_8.fst x_8.snd) && (oK (canO x_17) == oK (fouO x_8.fst x_8.snd) && true)))) = true→True∧true = false)∧((!(oH (canO x_17) == oH (fouO x_8.fst x_8.snd) && (oI (canO x_17) == oI (fouO x_8.fst x_8.snd) && (oK (canO x_17) == oK (fouO x_8.fst x_8.snd) && true)))) = false→((shV x_21.fst x_21.snd.fst x_21.snd.snd != (1 : Int)) = true→True∧true = false)∧((shV x_21.fst x_21.snd.fst x_21.snd.snd != (1 : Int)) = false→∃ (x : Unit), ((True∧((((True∧True∧(3 : Int) = (3 : Int))∧True∧(2 : Int) = (2 : Int))∧True∧True∧(3 : Nat) = (3 : Nat)∧∀ (i : Nat), i < (3 : Nat)→(True∧(if i = (2 : Nat) then (1 : Int) else if i = (1 : Nat) then (1 : Int) else if i = (0 : Nat) then (0 : Int) else (0 : Int)) = ([[(0 : Int), (1 : Int)], [(1 : Int), (2 : Int)], [(1 : Int), (4 : Int)]].getD i []).getD 0 (0 : Int))∧(if i = (2 : Nat) then (4 : Int) else if i = (1 : Nat) then (2 : Int) else if i = (0 : Nat) then (1 : Int) else (0 : Int)) = ([[(0 : Int), (1 : Int)], [(1 : Int), (2 : Int)], [(1 : Int), (4 : Int)]].getD i []).getD 1 (0 : Int))∧True∧(10 : Int) = (10 : Int))∧True∧(3 : Int) = (3 : Int))∧(True∧True∧(2 : Nat) = [[(0 : Int), (1 : Int), (4 : Int)], [(1 : Int), (2 : Int)]].length∧∀ (i : Nat), i < (2 : Nat)→True∧fitP (mixC (i = (1 : Nat)) (((1 : Nat), fun (x : Nat) => CV.vs (1 : Nat) (2 : Nat) fun (i' j : Nat) => mixC (i' = (1 : Nat)) (((1 : Nat), fun (x : Nat) => CV.int IntKind.i64 (2 : Int)).snd j) (mixC (i' = (0 : Nat)) (((1 : Nat), fun (x : Nat) => CV.int IntKind.i64 (1 : Int)).snd j) ([CV.int IntKind.i64 (0 : Int)].getD j CV.any))).snd 0) (if i = (0 : Nat) then CV.vs (1 : Nat) (3 : Nat) fun (i' j : Nat) => mixC (i' = (2 : Nat)) (((1 : Nat), fun (x : Nat) => CV.int IntKind.i64 (4 : Int)).snd j) (mixC (i' = (1 : Nat)) (((1 : Nat), fun (x : Nat) => CV.int IntKind.i64 (1 : Int)).snd j) (mixC (i' = (0 : Nat)) (((1 : Nat), fun (x : Nat) => CV.int IntKind.i64 (0 : Int)).snd j) ([CV.int IntKind.i64 (0 : Int)].getD j CV.any))) else [CV.nils].getD 0 CV.any)) (nums ([[(0 : Int), (1 : Int), (4 : Int)], [(1 : Int), (2 : Int)]].getD i [])))∧True)∧True∧((3 : Nat) + (1 : Nat)) * (16 : Nat)≤(140737488355328 : Nat)∧(3 : Nat) + (1 : Nat) < (4611686018427387904 : Nat)∧∃ (x : Unit), ((True∧((((True∧True∧(3 : Int) = (3 : Int))∧True∧(2 : Int) = (2 : Int))∧True∧True∧(3 : Nat) + (1 : Nat) = (4 : Nat)∧∀ (i : Nat), i < (3 : Nat) + (1 : Nat)→(True∧(if i < (3 : Nat) then if i = (2 : Nat) then (1 : Int) else if i = (1 : Nat) then (1 : Int) else if i = (0 : Nat) then (0 : Int) else (0 : Int) else if i - (3 : Nat) = (0 : Nat) then (0 : Int) else (0 : Int)) = ([[(0 : Int), (1 : Int)], [(1 : Int), (2 : Int)], [(1 : Int), (4 : Int)], [(0 : Int), (3 : Int)]].getD i []).getD 0 (0 : Int))∧(if i < (3 : Nat) then if i = (2 : Nat) then (4 : Int) else if i = (1 : Nat) then (2 : Int) else if i = (0 : Nat) then (1 : Int) else (0 : Int) else if i - (3 : Nat) = (0 : Nat) then (3 : Int) else (0 : Int)) = ([[(0 : Int), (1 : Int)], [(1 : Int), (2 : Int)], [(1 : Int), (4 : Int)], [(0 : Int), (3 : Int)]].getD i []).getD 1 (0 : Int))∧True∧(10 : Int) = (10 : Int))∧True∧(3 : Int) = (3 : Int))∧True)∧True∧∃ (x : Unit), ((True∧((((True∧True∧(3 : Int) = (3 : Int))∧True∧(2 : Int) = (2 : Int))∧True∧True∧(3 : Nat) = (3 : Nat)∧∀ (i : Nat), i < (3 : Nat)→(True∧(if i = (2 : Nat) then (1 : Int) else if i = (1 : Nat) then (1 : Int) else if i = (0 : Nat) then (0 : Int) else (0 : Int)) = ([[(0 : Int), (1 : Int)], [(1 : Int), (2 : Int)], [(1 : Int), (4 : Int)]].getD i []).getD 0 (0 : Int))∧(if i = (2 : Nat) then (4 : Int) else if i = (1 : Nat) then (2 : Int) else if i = (0 : Nat) then (1 : Int) else (0 : Int)) = ([[(0 : Int), (1 : Int)], [(1 : Int), (2 : Int)], [(1 : Int), (4 : Int)]].getD i []).getD 1 (0 : Int))∧True∧(10 : Int) = (10 : Int))∧True∧(3 : Int) = (3 : Int))∧True)∧True∧(((0 : Int) == (0 : Int)) = true→(((0 : Int) == (0 : Int)) = true→(((0 : Int) == (0 : Int)) = true→(((42 : Int) == (42 : Int)) = true→(true = true→(((52 : Int) == (52 : Int)) = true→True∧((↑[[(2 : Int), (1 : Int), (0 : Int)], [(1 : Int), (4 : Int)]].length : Int) == (2 : Int)) = true)∧(((52 : Int) == (52 : Int)) = false→True∧true = false))∧(true = false→True∧true = false))∧(((42 : Int) == (42 : Int)) = false→True∧true = false))∧(((0 : Int) == (0 : Int)) = false→True∧true = false))∧(((0 : Int) == (0 : Int)) = false→True∧true = false))∧(((0 : Int) == (0 : Int)) = false→True∧true = false))))))))))))) (by kernel_rfl) ?_
 have w0 : ∀ l, (flX l).wf := fun l => ⟨by show 3 < 4611686018427387904; decide, by show 3 < 4611686018427387904; decide, by show 2 < 4611686018427387904; decide⟩
 have w1 : ∀ l, (tr0 l).wf := fun l => ⟨by show 3 < 4611686018427387904; decide, by show 3 < 4611686018427387904; decide, by show 2 < 4611686018427387904; decide, by show 2 < 4611686018427387904; decide⟩
 repeat first | (refine ⟨(_, _), ⟨⟨trivial, rfl⟩, ⟨trivial, rfl⟩, trivial⟩, trivial, ?_⟩) | (refine And.intro (by decide) ?_)
 refine ⟨⟨fl0, tr0 [10, 12, 14], 1, 3⟩, ?_, ⟨w0 _, w1 _⟩, ?_⟩
 · repeat' first | exact trivial | exact rfl | apply And.intro | refine all3 ?_ ?_ ?_ | refine all2 ?_ ?_
 repeat first | (refine ⟨(_, _), ⟨⟨trivial, rfl⟩, ⟨trivial, rfl⟩, trivial⟩, trivial, ?_⟩) | (refine And.intro (by decide) ?_)
 refine ⟨(fl0, tr0 [20, 10, 10]), ?_, ⟨w0 _, w1 _⟩, ?_⟩
 · repeat' first | exact trivial | exact rfl | apply And.intro | refine all3 ?_ ?_ ?_ | refine all2 ?_ ?_
 repeat first | (refine ⟨(_, _), ⟨⟨trivial, rfl⟩, ⟨trivial, rfl⟩, trivial⟩, trivial, ?_⟩) | (refine And.intro (by decide) ?_)
 refine ⟨⟨fl1, 0, 1, 3⟩, ?_, w0 _, ?_⟩
 · repeat' first | exact trivial | exact rfl | apply And.intro | refine all3 ?_ ?_ ?_ | refine all2 ?_ ?_
 repeat first | (refine ⟨(_, _), ⟨⟨trivial, rfl⟩, ⟨trivial, rfl⟩, trivial⟩, trivial, ?_⟩) | (refine And.intro (by decide) ?_)
 refine ⟨fl0, ?_, w0 _, ?_⟩
 · repeat' first | exact trivial | exact rfl | apply And.intro | refine all3 ?_ ?_ ?_ | refine all2 ?_ ?_
 repeat first | (refine ⟨(_, _), ⟨⟨trivial, rfl⟩, ⟨trivial, rfl⟩, trivial⟩, trivial, ?_⟩) | (refine And.intro (by decide) ?_)
 refine ⟨(fl0, 1, 100), ?_, w0 _, ?_⟩
 · repeat' first | exact trivial | exact rfl | apply And.intro | refine all3 ?_ ?_ ?_ | refine all2 ?_ ?_
 repeat first | (refine ⟨fun h => absurd h (by decide +kernel), fun _ => ?_⟩) | (refine ⟨(_, _), ⟨⟨trivial, rfl⟩, ⟨trivial, rfl⟩, trivial⟩, trivial, ?_⟩) | (refine And.intro (by decide) ?_)
 refine ⟨(), ?_, trivial, ?_⟩
 · repeat' first | exact trivial | exact rfl | apply And.intro | refine all3 ?_ ?_ ?_ | refine all2 ?_ ?_
 refine And.intro (by decide) (And.intro (by decide) ?_)
 refine ⟨(), ?_, trivial, ?_⟩
 · repeat' first | exact trivial | exact rfl | apply And.intro | refine all4 ?_ ?_ ?_ ?_
 refine ⟨(), ?_, trivial, ?_⟩
 · repeat' first | exact trivial | exact rfl | apply And.intro | refine all3 ?_ ?_ ?_
 repeat first | (refine ⟨fun _ => ?_, fun h => absurd h (by decide)⟩) | exact ⟨trivial, rfl⟩
def sYes : Sig := ⟨Unit, fun _ => [], fun _ => True, fun _ => [.v (.c (.bool true))]⟩
end Go.Proofs.YtcfmdhlohahhcaaDoor
namespace Go.Proofs.YtcfmdhlohahhcaaDoor
open Go Go.Sx Nm
set_option maxRecDepth 100000
end Go.Proofs.YtcfmdhlohahhcaaDoor
namespace Go.Proofs.YtcfmdhlohahhcaaDoor
open Go Go.Sx Nm
set_option maxRecDepth 100000
end Go.Proofs.YtcfmdhlohahhcaaDoor
namespace Go.Proofs.YtcfmdhlohahhcaaDoor
open Go Go.Sx Nm
set_option maxRecDepth 100000
def bxC (b : Option Blk) (j : Nat) : CV := match b with | some (.box _ get) => get j | _ => .any
def bxO (st : St) (t j : Nat) : CV := bxC (st.hp (osN (st.tm t))) j
def bxN (st : St) (t j : Nat) : Nat := osN (.t (.c (bxO st t j)))
end Go.Proofs.YtcfmdhlohahhcaaDoor
namespace Nm
open Go Go.Sx
structure Torn where
 w : Int
 h : Int
 n : Nat
 b : Nat → Nat → Int
 m : Int
 k : Int
def iR (n : Int) : Prop := -9223372036854775808 ≤ n ∧ n ≤ 9223372036854775807
def Torn.wf (t : Torn) : Prop := t.n < 4611686018427387904 ∧ ∀ i, i < t.n → iR (t.b i 0) ∧ iR (t.b i 1)
def tornTV (t : Torn) : TV := .a 5 (ofList [.int .i64 t.w, .int .i64 t.h, .vs 2 t.n (fun i j => .int .i64 (t.b i j)), .int .i64 t.m, .int .i64 t.k])
def barTV (f t : Int) : TV := .a 2 (ofList [.int .i64 f, .int .i64 t])
def barB (w h f t : Int) : Bool := within f 0 (w * h - 1) && within t 0 (w * h - 1) && (decide (t = f + w) || (decide (t = f + 1) && decide (t % w ≠ 0)))
def barEq (b : Nat → Nat → Int) (x y : Int) (i : Nat) : Bool := decide (b i 0 = x) && decide (b i 1 = y)
def newB (b : Nat → Nat → Int) (x y : Int) (i : Nat) : Bool := allB i fun j => !barEq b x y j
def tk0 (t : Torn) : Bool := within t.w 2 6 && within t.h 2 6 && within t.m 1 100 && within t.k 0 100
def tkO (t : Torn) (i : Nat) : Bool := barB t.w t.h (t.b i 0) (t.b i 1) && newB t.b (t.b i 0) (t.b i 1) i
def tkI (t : Torn) (i : Nat) : Bool := tk0 t && allB i (tkO t)
def tchk (t : Torn) : Bool := tkI t t.n
def tchkE (t : Torn) : Int := if tchk t then 0 else 23
def metM (b : Nat → Nat → Int) (g : Nat) (ks : List Int) : Option Int := match ks with
 | [x, y] => if newB b x y g then none else some 1
 | _ => none
theorem tk0_iff {t : Torn} : tk0 t = true ↔ (2 ≤ t.w ∧ t.w ≤ 6) ∧ (2 ≤ t.h ∧ t.h ≤ 6) ∧ (1 ≤ t.m ∧ t.m ≤ 100) ∧ 0 ≤ t.k ∧ t.k ≤ 100 := by
 simp only [tk0, Bool.and_eq_true, within_iff, and_assoc]
theorem tkI_succ {t : Torn} {i : Nat} : tkI t (i + 1) = (tkI t i && tkO t i) := by unfold tkI; rw [allB, ← Bool.and_assoc]
theorem met_step {b : Nat → Nat → Int} {g : Nat} {ks : List Int} : (if ks = [b g 0, b g (0 + 1)] then some (bif true then 1 else 0) else metM b g ks) = metM b (g + 1) ks := by
 match ks with
 | [] => rfl
 | [x] => simp [metM]
 | x :: y :: z :: l => simp [metM]
 | [x, y] =>
   show (if [x, y] = [b g 0, b g 1] then some 1 else if newB b x y g then none else some 1) = if newB b x y (g + 1) then none else some 1
   have e : newB b x y (g + 1) = (newB b x y g && !barEq b x y g) := rfl
   rw [e]
   by_cases h : [x, y] = [b g 0, b g 1]
   · rw [if_pos h]
     simp only [List.cons.injEq, and_true] at h
     have : barEq b x y g = true := by unfold barEq; rw [decide_eq_true h.1.symm, decide_eq_true h.2.symm]; rfl
     rw [this]; simp
   · rw [if_neg h]
     have : barEq b x y g = false := by
       cases q : barEq b x y g with
       | false => rfl
       | true =>
         unfold barEq at q
         rw [Bool.and_eq_true, decide_eq_true_eq, decide_eq_true_eq] at q
         exact absurd (by rw [q.1, q.2]) h
     rw [this]; simp
theorem met_new {b : Nat → Nat → Int} {g : Nat} {x y : Int} : (!decide (¬valOf (metM b g [x, y]) = 0)) = newB b x y g := by
 have e : valOf (metM b g [x, y]) = if newB b x y g = true then 0 else 1 := by
   show valOf (if newB b x y g then none else some 1) = _
   split <;> rfl
 simp only [e]
 cases newB b x y g <;> simp
end Nm
namespace Go.Proofs.YtcfmdhlohahhcaaDoor
open Go Go.Sx Nm
set_option maxRecDepth 100000
structure BrAsk where
 t : Torn
 f : Int
 o : Int
def sBarP : Sig := ⟨BrAsk, fun a => [tornTV a.t, barTV a.f a.o], fun a => tk0 a.t = true ∧ a.t.n < 4611686018427387904, fun a => [.v (.c (.bool (barB a.t.w a.t.h a.f a.o)))]⟩
theorem wh_bd {w h : Int} (h1 : 2 ≤ w) (h2 : w ≤ 6) (h3 : 2 ≤ h) (h4 : h ≤ 6) : 4 ≤ w * h ∧ w * h ≤ 36 := by
 have : w = 2 ∨ w = 3 ∨ w = 4 ∨ w = 5 ∨ w = 6 := by omega
 rcases this with e | e | e | e | e <;> subst e <;> omega
theorem q78 (a : sBarP.α) (ha : sBarP.pre a) : CallQ Tryd.prog E0 78 (sBarP.arg a) (sBarP.res a) := by
 obtain ⟨t, f, o⟩ := a
 refine bare_say E0_ok [(54, sIn)] (show SigsOk Tryd.prog E0 [(54, sIn)] from (SigsOk.nil.cons u54 fun x _ => q54 x)) [] EvensOk.nil runs { live := true } (fuel := 8) ?_
 refine of_red (q := inRange IntKind.i64 (t.w * t.h)∧inRange IntKind.i64 (t.w * t.h - (1 : Int))∧∃ (x : Int × Int × Int), ((True∧f = x.fst)∧(True∧(0 : Int) = x.snd.fst)∧(True∧t.w * t.h - (1 : Int) = x.snd.snd)∧True)∧True∧((!within x.fst x.snd.fst x.snd.snd) = true→True∧barB t.w t.h f o = false)∧((!within x.fst x.snd.fst x.snd.snd) = false→inRange IntKind.i64 (t.w * t.h - (1 : Int))∧∃ (x : Int × Int × Int), ((True∧o = x.fst)∧(True∧(0 : Int) = x.snd.fst)∧(True∧t.w * t.h - (1 : Int) = x.snd.snd)∧True)∧True∧((!within x.fst x.snd.fst x.snd.snd) = true→True∧barB t.w t.h f o = false)∧((!within x.fst x.snd.fst x.snd.snd) = false→inRange IntKind.i64 (f + t.w)∧((o == f + t.w) = true→True∧barB t.w t.h f o = true)∧((o == f + t.w) = false→inRange IntKind.i64 (f + (1 : Int))∧((o == f + (1 : Int)) = true→t.w ≠ (0 : Int)∧True∧(o.tmod t.w != (0 : Int)) = barB t.w t.h f o)∧((o == f + (1 : Int)) = false→True∧barB t.w t.h f o = false))))) (by kernel_rfl) ?_
 simp only [true_and, and_true, inR, Prod.exists, Prod.forall, and_assoc, exists_and_left, exists_eq_left', exists_eq_left, forall_eq, exists_const, forall_const, loopN, loopM, fa2, fas, fas2, dup1, dup2, dup3, dup4, ite_true, exhs, exhn, exhz, exho, exA, ex1, ex2, ex3, ex4, ex5, beqI, bneI, decide_true, Bool.true_and, decide_eq_true_eq, decide_eq_false_iff_not, ne_eq, Decidable.not_not]
 obtain ⟨h0, hw⟩ := (show tk0 t = true ∧ t.n < 4611686018427387904 from ha)
 obtain ⟨⟨w1, w2⟩, ⟨h1, h2⟩, _⟩ := tk0_iff.1 h0
 have P := wh_bd w1 w2 h1 h2
 refine ⟨by omega, by omega, by omega, by omega, fun a => ?_, fun a => ⟨by omega, by omega, fun b => ?_, fun b => ?_⟩⟩
 · rw [Bool.not_eq_true'] at a; simp [barB, a]
 · rw [Bool.not_eq_true'] at b; simp [barB, b]
 · rw [Bool.not_eq_false'] at a b
   have a' := Nm.within_iff.1 a
   have b' := Nm.within_iff.1 b
   refine ⟨by omega, by omega, fun c => ?_, fun c => ⟨by omega, by omega, fun d => ⟨by omega, ?_⟩, fun d => ?_⟩⟩
   · unfold barB; rw [a, b, decide_eq_true c]; rfl
   · rw [Int.tmod_eq_emod_of_nonneg b'.1]; unfold barB; rw [a, b, decide_eq_false c, decide_eq_true d]; rfl
   · unfold barB; rw [a, b, decide_eq_false c, decide_eq_false d]; rfl
def sCkT : Sig := ⟨Torn, fun t => [tornTV t], Torn.wf, fun t => [.v (intC (tchkE t))]⟩
def aCk0 (t : Torn) : Ann := { G := Unit, ok := fun _ _ => True, dom := fun _ => [], tm := fun _ _ => [(4, .t (.c (.bool (tk0 t))))], hp := fun _ _ => [], mu := fun _ _ => 0 }
def aCk (t : Torn) : Ann := { G := Nat, ok := fun _ g => g ≤ t.n, dom := fun st => [osN (st.tm 5)], tm := fun _ g => [(4, .t (.c (.bool (tkI t g)))), (37, .t (intC g))], hp := fun st g => [(osN (st.tm 5), .self, some (.mp MB (metM t.b g)))], mu := fun _ g => t.n - g }
def aCk1 (t : Torn) : Ann := { G := Nat, ok := fun st g => isI (st.tm 37) g, dom := fun _ => [], tm := fun _ g => [(4, .t (.c (.bool (tkI t (g + 1)))))], hp := fun _ _ => [], mu := fun _ _ => 0 }
theorem q30 (t : Torn) (ht : t.wf) : CallQ Tryd.prog E0 30 (sCkT.arg t) (sCkT.res t) := by
 refine bare_say E0_ok [(78, sBarP), (54, sIn)] (show SigsOk Tryd.prog E0 [(78, sBarP), (54, sIn)] from ((SigsOk.nil.cons u54 fun x _ => q54 x).cons u78 q78)) [] EvensOk.nil runs { live := true, l := [(30, 5, aCk t)], c := [(30, 3, aCk0 t), (30, 8, aCk1 t)] } (fuel := 8) ?_
 refine of_red (q := (∃ (x : Int × Int × Int), ((True∧t.w = x.fst)∧(True∧(2 : Int) = x.snd.fst)∧(True∧(6 : Int) = x.snd.snd)∧True)∧True∧(within x.fst x.snd.fst x.snd.snd = true→∃ (x : Int × Int × Int), ((True∧t.h = x.fst)∧(True∧(2 : Int) = x.snd.fst)∧(True∧(6 : Int) = x.snd.snd)∧True)∧True∧(within x.fst x.snd.fst x.snd.snd = true→∃ (x : Int × Int × Int), ((True∧t.m = x.fst)∧(True∧(1 : Int) = x.snd.fst)∧(True∧(100 : Int) = x.snd.snd)∧True)∧True∧(within x.fst x.snd.fst x.snd.snd = true→∃ (x : Int × Int × Int), ((True∧t.k = x.fst)∧(True∧(0 : Int) = x.snd.fst)∧(True∧(100 : Int) = x.snd.snd)∧True)∧True∧∃ (g : Unit), True∧True∧((True∧within x.fst x.snd.fst x.snd.snd = tk0 t)∧True)∧True)∧(within x.fst x.snd.fst x.snd.snd = false→∃ (g : Unit), True∧True∧((True∧tk0 t = false)∧True)∧True))∧(within x.fst x.snd.fst x.snd.snd = false→∃ (g : Unit), True∧True∧((True∧tk0 t = false)∧True)∧True))∧(within x.fst x.snd.fst x.snd.snd = false→∃ (g : Unit), True∧True∧((True∧tk0 t = false)∧True)∧True))∧∀ (g : Unit), True→(∃ (g : Nat), g≤t.n∧True∧((True∧tk0 t = tkI t g)∧(True∧(0 : Int) = (↑g : Int))∧True)∧(True∧∀ (ks : List Int), none = metM t.b g ks)∧True)∧∀ (g : Nat), g≤t.n→(decide ((↑g : Int) < (↑t.n : Int)) = true→(0 : Int)≤(↑g : Int)∧(↑g : Int) < (↑t.n : Int)∧((tkI t g = true→∃ (x : BrAsk), ((True∧((((True∧True∧t.w = x.t.w)∧True∧t.h = x.t.h)∧True∧True∧t.n = x.t.n∧∀ (i : Nat), i < t.n→(True∧t.b i 0 = x.t.b i 0)∧t.b i 1 = x.t.b i 1)∧True∧t.m = x.t.m)∧True∧t.k = x.t.k)∧(True∧(True∧True∧t.b g 0 = x.f)∧True∧t.b g 1 = x.o)∧True)∧(tk0 x.t = true∧x.t.n < (4611686018427387904 : Nat))∧(barB x.t.w x.t.h x.f x.o = true→inRange IntKind.i64 (t.b g (0 : Nat))∧inRange IntKind.i64 (t.b g ((0 : Nat) + (1 : Nat)))∧∃ (g_1 : Nat), (↑g : Int) = (↑g_1 : Int)∧True∧((True∧(!decide (valOf (metM t.b g [t.b g (0 : Nat), t.b g ((0 : Nat) + (1 : Nat))]) ≠ (0 : Int))) = tkI t (g_1 + (1 : Nat)))∧True)∧True)∧(barB x.t.w x.t.h x.f x.o = false→∃ (g_1 : Nat), (↑g : Int) = (↑g_1 : Int)∧True∧((True∧tkI t (g_1 + (1 : Nat)) = false)∧True)∧True))∧(tkI t g = false→∃ (g_1 : Nat), (↑g : Int) = (↑g_1 : Int)∧True∧((True∧tkI t (g_1 + (1 : Nat)) = false)∧True)∧True))∧∀ (g_1 : Nat), (↑g : Int) = (↑g_1 : Int)→inRange IntKind.i64 (t.b g (0 : Nat))∧inRange IntKind.i64 (t.b g ((0 : Nat) + (1 : Nat)))∧inRange IntKind.i64 ((↑g : Int) + (1 : Int))∧∃ (g' : Nat), g'≤t.n∧t.n - g' < t.n - g∧True∧((True∧tkI t (g_1 + (1 : Nat)) = tkI t g')∧(True∧(↑g : Int) + (1 : Int) = (↑g' : Int))∧True)∧(True∧∀ (ks : List Int), (if ks = [t.b g (0 : Nat), t.b g ((0 : Nat) + (1 : Nat))] then some (bif true then (1 : Int) else (0 : Int)) else metM t.b g ks) = metM t.b g' ks)∧True)∧(decide ((↑g : Int) < (↑t.n : Int)) = false→((!tkI t g) = true→True∧(23 : Int) = tchkE t)∧((!tkI t g) = false→True∧(0 : Int) = tchkE t))) (by kernel_rfl) ?_
 simp only [true_and, and_true, inR, Prod.exists, Prod.forall, and_assoc, exists_and_left, exists_eq_left', exists_eq_left, forall_eq, exists_const, forall_const, loopN, loopM, fa2, fas, fas2, dup1, dup2, dup3, dup4, ite_true, exhs, exhn, exhz, exho, exA, ex1, ex2, ex3, ex4, ex5, beqI, bneI, decide_true, Bool.true_and, decide_eq_true_eq, decide_eq_false_iff_not, ne_eq, Decidable.not_not]
 obtain ⟨hw, hb⟩ := (show t.n < 4611686018427387904 ∧ ∀ i, i < t.n → iR (t.b i 0) ∧ iR (t.b i 1) from ht)
 have k0 : ∀ a b c d : Bool, within t.w 2 6 = a → within t.h 2 6 = b → within t.m 1 100 = c → within t.k 0 100 = d → tk0 t = (a && b && c && d) := fun a b c d e1 e2 e3 e4 => by unfold tk0; rw [e1, e2, e3, e4]
 refine ⟨fun a => ⟨fun b => ⟨fun c => by rw [k0 _ _ _ _ a b c rfl]; simp, fun c => by rw [k0 _ _ _ _ a b c rfl]; simp⟩, fun b => by rw [k0 _ _ _ _ a b rfl rfl]; simp⟩, fun a => by rw [k0 _ _ _ _ a rfl rfl rfl]; simp, ⟨0, by omega, by unfold tkI allB; rw [Bool.and_true], rfl, fun ks => ?_⟩, fun g hg => ⟨by omega, by omega, fun hk => ?_, fun hk => ?_, ?_⟩, ?_, ?_⟩
 · unfold metM
   split
   · rfl
   · rfl
 · have h0 : tk0 t = true := by unfold tkI at hk; rw [Bool.and_eq_true] at hk; exact hk.1
   refine ⟨⟨t, t.b g 0, t.b g 1⟩, rfl, rfl, rfl, fun _ _ => ⟨rfl, rfl⟩, rfl, rfl, rfl, rfl, h0, hw, fun hB => ⟨(hb g hg).1.1, (hb g hg).1.2, (hb g hg).2.1, (hb g hg).2.2, ?_⟩, fun hB => ?_⟩
   · have hB : barB t.w t.h (t.b g 0) (t.b g 1) = true := hB
     rw [tkI_succ, hk]
     unfold tkO
     rw [hB]
     exact met_new
   · have hB : barB t.w t.h (t.b g 0) (t.b g 1) = false := hB
     rw [tkI_succ]
     unfold tkO
     rw [hB]; simp
 · rw [tkI_succ, hk]; rfl
 · refine ⟨(hb g hg).1.1, (hb g hg).1.2, (hb g hg).2.1, (hb g hg).2.2, by omega, by omega, g + 1, by omega, by omega, rfl, rfl, fun ks => met_step⟩
 · intro h; rw [Bool.not_eq_true'] at h; unfold tchkE tchk; rw [h]; rfl
 · intro h; rw [Bool.not_eq_false'] at h; unfold tchkE tchk; rw [h]; rfl
structure TwAsk where
 t : Torn
 p : Nat
def twV (t : Torn) (p : Int) : Int := t.m * t.n + 2 * t.k * p
def sTwi : Sig := ⟨TwAsk, fun a => [tornTV a.t, intC a.p], fun a => tk0 a.t = true ∧ a.t.n ≤ 72 ∧ a.p ≤ 1000, fun a => [.v (intC (twV a.t a.p))]⟩
theorem tw_bd {t : Torn} {p : Nat} (h0 : tk0 t = true) (hn : t.n ≤ 72) (hp : p ≤ 1000) : (0 ≤ t.m * (t.n : Int) ∧ t.m * (t.n : Int) ≤ 7200) ∧ (0 ≤ 2 * t.k ∧ 2 * t.k ≤ 200) ∧ 0 ≤ 2 * t.k * (p : Int) ∧ 2 * t.k * (p : Int) ≤ 200000 := by
 obtain ⟨_, _, ⟨m1, m2⟩, k1, k2⟩ := tk0_iff.1 h0
 have a := Int.mul_nonneg (show 0 ≤ t.m by omega) (show 0 ≤ (t.n : Int) by omega)
 have b := Int.mul_le_mul m2 (show (t.n : Int) ≤ 72 by omega) (by omega) (by omega)
 have c := Int.mul_nonneg (show 0 ≤ 2 * t.k by omega) (show 0 ≤ (p : Int) by omega)
 have d := Int.mul_le_mul (show 2 * t.k ≤ 200 by omega) (show (p : Int) ≤ 1000 by omega) (by omega) (by omega)
 omega
theorem q75 (a : sTwi.α) (ha : sTwi.pre a) : CallQ Tryd.prog E0 75 (sTwi.arg a) (sTwi.res a) := by
 obtain ⟨t, p⟩ := a
 refine bare_say E0_ok [] (show SigsOk Tryd.prog E0 [] from SigsOk.nil) [] EvensOk.nil runs { live := true } (fuel := 8) ?_
 refine of_red (q := inRange IntKind.i64 (t.m * (↑t.n : Int))∧inRange IntKind.i64 ((2 : Int) * t.k)∧inRange IntKind.i64 ((2 : Int) * t.k * (↑p : Int))∧inRange IntKind.i64 (t.m * (↑t.n : Int) + (2 : Int) * t.k * (↑p : Int))∧True∧t.m * (↑t.n : Int) + (2 : Int) * t.k * (↑p : Int) = twV t (↑p : Int)) (by kernel_rfl) ?_
 simp only [true_and, and_true, inR, Prod.exists, Prod.forall, and_assoc, exists_and_left, exists_eq_left', exists_eq_left, forall_eq, exists_const, forall_const, loopN, loopM, fa2, fas, fas2, dup1, dup2, dup3, dup4, ite_true, exhs, exhn, exhz, exho, exA, ex1, ex2, ex3, ex4, ex5, beqI, bneI, decide_true, Bool.true_and, decide_eq_true_eq, decide_eq_false_iff_not, ne_eq, Decidable.not_not]
 obtain ⟨h0, hn, hp⟩ := (show tk0 t = true ∧ t.n ≤ 72 ∧ p ≤ 1000 from ha)
 have B := tw_bd h0 hn hp
 unfold twV
 repeat (refine And.intro (by omega) ?_)
 rfl
end Go.Proofs.YtcfmdhlohahhcaaDoor
namespace Nm
open Go Go.Sx
theorem pigeon : ∀ (m n : Nat) (f : Nat → Nat), (∀ i, i < n → f i < m) → (∀ i, i < n → ∀ j, j < n → f i = f j → i = j) → n ≤ m
 | 0, n, f, hf, _ => by
   cases n with
   | zero => omega
   | succ n => exact absurd (hf 0 (by omega)) (by omega)
 | m + 1, n, f, hf, hi => by
   cases n with
   | zero => omega
   | succ n =>
     by_cases h : ∃ i0, i0 < n + 1 ∧ f i0 = m
     · obtain ⟨i0, h0, e0⟩ := h
       have g := pigeon m n (fun i => if i = i0 then f n else f i) (fun i hin => by
         show (if i = i0 then f n else f i) < m
         by_cases c : i = i0
         · rw [if_pos c]
           have a := hf n (by omega)
           have b : f n ≠ m := fun e => by
             have := hi n (by omega) i0 h0 (e.trans e0.symm)
             omega
           omega
         · rw [if_neg c]
           have a := hf i (by omega)
           have b : f i ≠ m := fun e => c (hi i (by omega) i0 h0 (e.trans e0.symm))
           omega) (fun i hin j hj e => by
         have e : (if i = i0 then f n else f i) = (if j = i0 then f n else f j) := e
         by_cases c : i = i0 <;> by_cases d : j = i0
         · omega
         · rw [if_pos c, if_neg d] at e
           have := hi n (by omega) j (by omega) e
           omega
         · rw [if_neg c, if_pos d] at e
           have := hi i (by omega) n (by omega) e
           omega
         · rw [if_neg c, if_neg d] at e
           exact hi i (by omega) j (by omega) e)
       omega
     · have g := pigeon m (n + 1) f (fun i hin => by
         have a := hf i hin
         have b : f i ≠ m := fun e => h ⟨i, hin, e⟩
         omega) hi
       omega
theorem barB_iff {w h f t : Int} : barB w h f t = true ↔ (0 ≤ f ∧ f ≤ w * h - 1) ∧ (0 ≤ t ∧ t ≤ w * h - 1) ∧ (t = f + w ∨ t = f + 1 ∧ t % w ≠ 0) := by
 simp only [barB, Bool.and_eq_true, Bool.or_eq_true, decide_eq_true_eq, within_iff, and_assoc]
theorem barEq_iff {b : Nat → Nat → Int} {x y : Int} {i : Nat} : barEq b x y i = true ↔ b i 0 = x ∧ b i 1 = y := by
 simp only [barEq, Bool.and_eq_true, decide_eq_true_eq]
theorem newB_iff {b : Nat → Nat → Int} {x y : Int} {n : Nat} : newB b x y n = true ↔ ∀ i, i < n → ¬ (b i 0 = x ∧ b i 1 = y) := by
 unfold newB
 rw [allB_iff]
 refine forall_congr' fun i => imp_congr_right fun _ => ?_
 rw [Bool.not_eq_true', ← barEq_iff, Bool.eq_false_iff]
structure TkOk (t : Torn) : Prop where
 t0 : tk0 t = true
 wl : 2 ≤ t.w
 wu : t.w ≤ 6
 hl : 2 ≤ t.h
 hu : t.h ≤ 6
 bar : ∀ i, i < t.n → barB t.w t.h (t.b i 0) (t.b i 1) = true
 dif : ∀ i, i < t.n → ∀ j, j < t.n → t.b i 0 = t.b j 0 → t.b i 1 = t.b j 1 → i = j
 few : t.n ≤ 72
theorem tchk_ok {t : Torn} (h : tchk t = true) : TkOk t := by
 unfold tchk tkI at h
 rw [Bool.and_eq_true, allB_iff] at h
 obtain ⟨h0, h1⟩ := h
 obtain ⟨⟨w1, w2⟩, ⟨v1, v2⟩, _⟩ := tk0_iff.1 h0
 have hb : ∀ i, i < t.n → barB t.w t.h (t.b i 0) (t.b i 1) = true := fun i hi => by
   have := h1 i hi; unfold tkO at this; rw [Bool.and_eq_true] at this; exact this.1
 have hd : ∀ i, i < t.n → ∀ j, j < i → ¬ (t.b j 0 = t.b i 0 ∧ t.b j 1 = t.b i 1) := fun i hi => by
   have := h1 i hi; unfold tkO at this; rw [Bool.and_eq_true, newB_iff] at this; exact this.2
 have dif : ∀ i, i < t.n → ∀ j, j < t.n → t.b i 0 = t.b j 0 → t.b i 1 = t.b j 1 → i = j := fun i hi j hj e0 e1 => by
   by_cases c : i < j
   · exact absurd ⟨e0, e1⟩ (hd j hj i c)
   · by_cases d : j < i
     · exact absurd ⟨e0.symm, e1.symm⟩ (hd i hi j d)
     · omega
 have P := Go.Proofs.YtcfmdhlohahhcaaDoor.wh_bd w1 w2 v1 v2
 refine ⟨h0, w1, w2, v1, v2, hb, dif, ?_⟩
 refine pigeon 72 t.n (fun i => (if t.b i 1 = t.b i 0 + t.w then 2 * t.b i 0 else 2 * t.b i 0 + 1).toNat) (fun i hi => ?_) fun i hi j hj e => ?_
 · obtain ⟨⟨a1, a2⟩, _⟩ := barB_iff.1 (hb i hi)
   show (if t.b i 1 = t.b i 0 + t.w then 2 * t.b i 0 else 2 * t.b i 0 + 1).toNat < 72
   split <;> omega
 · have e : (if t.b i 1 = t.b i 0 + t.w then 2 * t.b i 0 else 2 * t.b i 0 + 1).toNat = (if t.b j 1 = t.b j 0 + t.w then 2 * t.b j 0 else 2 * t.b j 0 + 1).toNat := e
   obtain ⟨⟨a1, a2⟩, _, a3⟩ := barB_iff.1 (hb i hi)
   obtain ⟨⟨b1, b2⟩, _, b3⟩ := barB_iff.1 (hb j hj)
   by_cases c : t.b i 1 = t.b i 0 + t.w <;> by_cases d : t.b j 1 = t.b j 0 + t.w
   · rw [if_pos c, if_pos d] at e; exact dif i hi j hj (by omega) (by omega)
   · rw [if_pos c, if_neg d] at e; omega
   · rw [if_neg c, if_pos d] at e; omega
   · rw [if_neg c, if_neg d] at e; exact dif i hi j hj (by omega) (by omega)
structure Pcs where
 np : Nat
 len : Nat → Nat
 kn : Nat → Nat → Int
def Pcs.wf (p : Pcs) : Prop := p.np ≤ 1073741824 ∧ ∀ i, i < p.np → p.len i ≤ 1073741824 ∧ ∀ k, k < p.len i → iR (p.kn i k)
def pcsCV (p : Pcs) : CV := .vs 1 p.np fun i _ => .vs 1 (p.len i) fun k _ => .int .i64 (p.kn i k)
def pcsTV (p : Pcs) : TV := .c (pcsCV p)
def stL (p : Pcs) (i k : Nat) : Int := imin (p.kn i k) (p.kn i (k + 1))
def stH (p : Pcs) (i k : Nat) : Int := imax (p.kn i k) (p.kn i (k + 1))
def hasB (t : Torn) (x y : Int) : Bool := !newB t.b x y t.n
def cntK (t : Torn) (p : Pcs) (i j : Nat) : Nat → Nat
 | 0 => 0
 | k + 1 => cntK t p i j k + if barEq t.b (stL p i k) (stH p i k) j then 1 else 0
def cntI (t : Torn) (p : Pcs) (j : Nat) : Nat → Nat
 | 0 => 0
 | i + 1 => cntI t p j i + cntK t p i j (p.len i - 1)
def fndK (t : Torn) (p : Pcs) (i k : Nat) : Bool := allB k fun k => hasB t (stL p i k) (stH p i k)
def okI (t : Torn) (p : Pcs) (i : Nat) : Bool := allB i fun i => decide (2 ≤ p.len i) && fndK t p i (p.len i - 1)
def isM (t : Torn) (p : Pcs) : Bool := okI t p p.np && allB t.n fun j => decide (cntI t p j p.np = 1)
theorem okI_succ {t : Torn} {p : Pcs} {i : Nat} : okI t p (i + 1) = (okI t p i && (decide (2 ≤ p.len i) && fndK t p i (p.len i - 1))) := rfl
theorem fndK_succ {t : Torn} {p : Pcs} {i k : Nat} : fndK t p i (k + 1) = (fndK t p i k && hasB t (stL p i k) (stH p i k)) := rfl
theorem hasB_iff {t : Torn} {x y : Int} : hasB t x y = true ↔ ∃ j, j < t.n ∧ t.b j 0 = x ∧ t.b j 1 = y := by
 unfold hasB
 rw [Bool.not_eq_true', Bool.eq_false_iff, ne_eq, newB_iff]
 constructor
 · intro h
   apply Classical.byContradiction
   intro g
   exact h fun i hi e => g ⟨i, hi, e⟩
 · intro ⟨j, hj, e⟩ h
   exact h j hj e
theorem allB_false {n : Nat} {p : Nat → Bool} (i : Nat) (hi : i < n) (h : p i = false) : allB n p = false := by
 cases e : allB n p with
 | false => rfl
 | true => rw [allB_iff.1 e i hi] at h; cases h
theorem no_len {t : Torn} {p : Pcs} {i : Nat} (hi : i < p.np) (h : p.len i < 2) : isM t p = false := by
 unfold isM okI
 rw [allB_false i hi (by rw [decide_eq_false (by omega)]; rfl)]; rfl
theorem no_has {t : Torn} {p : Pcs} {i k : Nat} (hi : i < p.np) (hk : k < p.len i - 1) (h : hasB t (stL p i k) (stH p i k) = false) : isM t p = false := by
 unfold isM okI
 rw [allB_false i hi (by unfold fndK; rw [allB_false k hk h, Bool.and_false])]; rfl
theorem cntK_mono {t : Torn} {p : Pcs} {i j : Nat} : ∀ {k l : Nat}, k ≤ l → cntK t p i j k ≤ cntK t p i j l := by
 intro k l h
 induction l with
 | zero => rw [show k = 0 by omega]; exact Nat.le_refl _
 | succ l ih =>
   by_cases c : k = l + 1
   · rw [c]; exact Nat.le_refl _
   · have := ih (by omega)
     rw [cntK]; omega
theorem cntI_mono {t : Torn} {p : Pcs} {j : Nat} : ∀ {k l : Nat}, k ≤ l → cntI t p j k ≤ cntI t p j l := by
 intro k l h
 induction l with
 | zero => rw [show k = 0 by omega]; exact Nat.le_refl _
 | succ l ih =>
   by_cases c : k = l + 1
   · rw [c]; exact Nat.le_refl _
   · have := ih (by omega)
     rw [cntI]; omega
theorem no_two {t : Torn} {p : Pcs} {i k j : Nat} (hi : i < p.np) (hk : k < p.len i - 1) (hj : j < t.n) (hb : barEq t.b (stL p i k) (stH p i k) j = true) (h : 1 ≤ cntI t p j i + cntK t p i j k) : isM t p = false := by
 unfold isM
 rw [allB_false j hj, Bool.and_false]
 have a := cntK_mono (t := t) (p := p) (i := i) (j := j) (show k + 1 ≤ p.len i - 1 by omega)
 have b := cntI_mono (t := t) (p := p) (j := j) (show i + 1 ≤ p.np by omega)
 have c : cntK t p i j (k + 1) = cntK t p i j k + 1 := by rw [cntK, if_pos hb]
 have d : cntI t p j (i + 1) = cntI t p j i + cntK t p i j (p.len i - 1) := rfl
 exact decide_eq_false (by omega)
def sumT (f : Nat → Nat) : Nat → Nat
 | 0 => 0
 | n + 1 => sumT f n + f n
theorem sumT_add {f g : Nat → Nat} : ∀ n, sumT (fun j => f j + g j) n = sumT f n + sumT g n
 | 0 => rfl
 | n + 1 => by rw [sumT, sumT, sumT, sumT_add n]; omega
theorem sumT_ge {f : Nat → Nat} {n j : Nat} (hj : j < n) : f j ≤ sumT f n := by
 induction n with
 | zero => omega
 | succ n ih =>
   rw [sumT]
   by_cases c : j = n
   · subst c; omega
   · have := ih (by omega); omega
theorem sumT_congr {f g : Nat → Nat} {n : Nat} (h : ∀ j, j < n → f j = g j) : sumT f n = sumT g n := by
 induction n with
 | zero => rfl
 | succ n ih => rw [sumT, sumT, ih fun j hj => h j (by omega), h n (by omega)]
theorem sumT_one {n : Nat} : sumT (fun _ => 1) n = n := by
 induction n with
 | zero => rfl
 | succ n ih => rw [sumT, ih]
theorem few_np {t : Torn} {p : Pcs} {i : Nat} (h : okI t p i = true) : i ≤ sumT (fun j => cntI t p j i) t.n := by
 induction i with
 | zero => omega
 | succ i ih =>
   rw [okI_succ, Bool.and_eq_true, Bool.and_eq_true, decide_eq_true_eq] at h
   obtain ⟨h1, h2, h3⟩ := h
   have e : (fun j => cntI t p j (i + 1)) = fun j => cntI t p j i + cntK t p i j (p.len i - 1) := rfl
   rw [e, sumT_add]
   have a := ih h1
   have : 1 ≤ sumT (fun j => cntK t p i j (p.len i - 1)) t.n := by
     unfold fndK at h3
     obtain ⟨j, hj, e0, e1⟩ := hasB_iff.1 (allB_iff.1 h3 0 (by omega))
     have b := sumT_ge (f := fun j => cntK t p i j (p.len i - 1)) hj
     have c := cntK_mono (t := t) (p := p) (i := i) (j := j) (show 1 ≤ p.len i - 1 by omega)
     have d : cntK t p i j 1 = 1 := by rw [cntK, cntK, if_pos (barEq_iff.2 ⟨e0, e1⟩)]
     have b : cntK t p i j (p.len i - 1) ≤ sumT (fun j => cntK t p i j (p.len i - 1)) t.n := b
     omega
   omega
theorem np_few {t : Torn} {p : Pcs} (h : isM t p = true) : p.np ≤ t.n := by
 unfold isM at h
 rw [Bool.and_eq_true, allB_iff] at h
 have a := few_np h.1
 rw [sumT_congr (g := fun _ => 1) fun j hj => by have := h.2 j hj; rw [decide_eq_true_eq] at this; exact this, sumT_one] at a
 exact a
def numM (b : Nat → Nat → Int) : Nat → List Int → Option Int
 | 0, _ => none
 | g + 1, ks => if ks = [b g 0, b g (0 + 1)] then some (g : Int) else numM b g ks
theorem numM_some {b : Nat → Nat → Int} {x y v : Int} : ∀ {g : Nat}, numM b g [x, y] = some v → ∃ j : Nat, j < g ∧ v = j ∧ b j 0 = x ∧ b j 1 = y
 | 0, h => by cases h
 | g + 1, h => by
   unfold numM at h
   split at h
   · rename_i e
     injection h with h
     simp only [List.cons.injEq, and_true] at e
     exact ⟨g, by omega, h.symm, e.1.symm, e.2.symm⟩
   · obtain ⟨j, hj, r⟩ := numM_some h
     exact ⟨j, by omega, r⟩
theorem numM_none {b : Nat → Nat → Int} {x y : Int} : ∀ {g : Nat}, numM b g [x, y] = none → newB b x y g = true
 | 0, _ => rfl
 | g + 1, h => by
   unfold numM at h
   split at h
   · cases h
   · rename_i e
     have := newB_iff.1 (numM_none h)
     refine newB_iff.2 fun i hi c => ?_
     by_cases d : i = g
     · subst d; exact e (by rw [← c.1, ← c.2])
     · exact this i (by omega) c
end Nm
namespace Go.Proofs.YtcfmdhlohahhcaaDoor
open Go Go.Sx Nm
set_option maxRecDepth 100000
set_option maxHeartbeats 1000000
structure MdAsk where
 t : Torn
 p : Pcs
def mdV (t : Torn) (p : Pcs) : Int := if tchk t = true then (if isM t p = true then twV t p.np else 0) else 0
def mdB (t : Torn) (p : Pcs) : Bool := tchk t && isM t p
def sMd : Sig := ⟨MdAsk, fun a => [tornTV a.t, pcsTV a.p], fun a => a.t.wf ∧ a.p.wf, fun a => [.v (intC (mdV a.t a.p)), .v (.c (.bool (mdB a.t a.p))), .v (intC (tchkE a.t))]⟩
theorem exTn {t : Torn} {R : Torn → Prop} (h : R t) : ∃ a : Torn, t.w = a.w ∧ t.h = a.h ∧ t.n = a.n ∧ (∀ i, i < t.n → t.b i 0 = a.b i 0 ∧ t.b i 1 = a.b i 1) ∧ t.m = a.m ∧ t.k = a.k ∧ R a :=
 ⟨t, rfl, rfl, rfl, fun _ _ => ⟨rfl, rfl⟩, rfl, rfl, h⟩
theorem exTw {t : Torn} {n : Nat} {R : TwAsk → Prop} (h : R ⟨t, n⟩) : ∃ a : TwAsk, t.w = a.t.w ∧ t.h = a.t.h ∧ t.n = a.t.n ∧ (∀ i, i < t.n → t.b i 0 = a.t.b i 0 ∧ t.b i 1 = a.t.b i 1) ∧ t.m = a.t.m ∧ t.k = a.t.k ∧ (n : Int) = a.p ∧ R a :=
 ⟨⟨t, n⟩, rfl, rfl, rfl, fun _ _ => ⟨rfl, rfl⟩, rfl, rfl, rfl, h⟩
theorem tk_of {t : Torn} (e : tchkE t = 0) : tchk t = true := by
 unfold tchkE at e
 split at e
 · assumption
 · cases e
theorem not_tk {t : Torn} (e : ¬ tchkE t = 0) : tchk t = false ∧ tchkE t = 23 := by
 unfold tchkE at e ⊢
 cases h : tchk t with
 | false => exact ⟨rfl, rfl⟩
 | true => rw [if_pos h] at e; exact absurd rfl e
theorem md_no {t : Torn} {p : Pcs} (e : ¬ tchkE t = 0) : 0 = mdV t p ∧ mdB t p = false := by
 unfold mdV mdB; rw [(not_tk e).1]; exact ⟨rfl, rfl⟩
theorem md_is {t : Torn} {p : Pcs} (hc : tchk t = true) (h : isM t p = true) : twV t p.np = mdV t p ∧ mdB t p = true ∧ 0 = tchkE t := by
 unfold mdV mdB tchkE; rw [hc, h]; exact ⟨rfl, rfl, rfl⟩
theorem md_isnt {t : Torn} {p : Pcs} (hc : tchk t = true) (h : isM t p = false) : 0 = mdV t p ∧ mdB t p = false ∧ 0 = tchkE t := by
 unfold mdV mdB tchkE; rw [hc, h]; exact ⟨rfl, rfl, rfl⟩
def aAl (t : Torn) : Ann := { G := Nat, ok := fun _ g => g ≤ t.n, dom := fun st => [osN (st.tm 4), osN (st.tm 5)], tm := fun _ g => [(13, .t (intC g))], hp := fun st g => [(osN (st.tm 4), .self, some (.box 72 (fun j => .bool (decide (j < g))))), (osN (st.tm 5), .self, some (.mp MI (numM t.b g)))], mu := fun _ g => t.n - g }
def lvB (t : Torn) (p : Pcs) (i k j : Nat) : Bool := decide (j < t.n) && decide (cntI t p j i + cntK t p i j k = 0)
structure LvOk (t : Torn) (p : Pcs) (i k : Nat) : Prop where
 fnd : fndK t p i k = true
 le : ∀ j, j < t.n → cntI t p j i + cntK t p i j k ≤ 1
def aM1 (t : Torn) (p : Pcs) : Ann := { G := Nat, ok := fun _ g => g ≤ p.np ∧ okI t p g = true ∧ LvOk t p g 0, dom := fun st => [osN (st.tm 9)], tm := fun _ g => [(32, .t (intC g))], hp := fun st g => [(osN (st.tm 9), .self, some (.box 72 (fun j => .bool (lvB t p g 0 j))))], mu := fun _ g => p.np - g }
def aM2 (t : Torn) (p : Pcs) : Ann := { G := Nat × Nat, ok := fun st g => isI (st.tm 32) g.2 ∧ g.1 ≤ p.len g.2 - 1 ∧ LvOk t p g.2 g.1, dom := fun st => [osN (st.tm 9)], tm := fun _ g => [(42, .t (intC g.1))], hp := fun st g => [(osN (st.tm 9), .self, some (.box 72 (fun j => .bool (lvB t p g.2 g.1 j))))], mu := fun _ g => p.len g.2 - g.1 }
theorem st_R {p : Pcs} {i k : Nat} (h1 : iR (p.kn i k)) (h2 : iR (p.kn i (k + 1))) : iR (stL p i k) ∧ iR (stH p i k) := by
 unfold stL stH imin imax
 constructor <;> split <;> assumption
def noneF (f : Nat → Bool) : Nat → Nat → Bool
 | 0, _ => true
 | n + 1, i => (f i == false) && noneF f n (i + 1)
theorem noneF_iff {f : Nat → Bool} : ∀ {n i : Nat}, noneF f n i = true ↔ ∀ j, i ≤ j → j < i + n → f j = false
 | 0, i => ⟨fun _ j h1 h2 => by omega, fun _ => rfl⟩
 | n + 1, i => by
   rw [noneF, Bool.and_eq_true, noneF_iff]
   constructor
   · intro ⟨h1, h2⟩ j h3 h4
     by_cases d : j = i
     · subst d; simpa using h1
     · exact h2 j (by omega) (by omega)
   · intro h
     exact ⟨by simpa using h i (by omega) (by omega), fun j h1 h2 => h j (by omega) (by omega)⟩
theorem q28 (a : sMd.α) (ha : sMd.pre a) : CallQ Tryd.prog E0 28 (sMd.arg a) (sMd.res a) := by
 obtain ⟨t, p⟩ := a
 refine bare_say E0_ok [(75, sTwi), (30, sCkT), (74, sEnds)] (show SigsOk Tryd.prog E0 [(75, sTwi), (30, sCkT), (74, sEnds)] from (((SigsOk.nil.cons u74 fun x _ => q74 x).cons u30 q30).cons u75 q75)) [] EvensOk.nil runs { live := true, l := [(73, 4, aAl t), (28, 7, aM1 t p), (28, 12, aM2 t p)] } (fuel := 8) ?_
 refine of_red (q := ∃ (x : Torn), ((True∧((((True∧True∧t.w = x.w)∧True∧t.h = x.h)∧True∧True∧t.n = x.n∧∀ (i : Nat), i < t.n→(True∧t.b i 0 = x.b i 0)∧t.b i 1 = x.b i 1)∧True∧t.m = x.m)∧True∧t.k = x.k)∧True)∧(x.n < (4611686018427387904 : Nat)∧∀ (i : Nat), i < x.n→((-9223372036854775808 : Int)≤x.b i (0 : Nat)∧x.b i (0 : Nat)≤(9223372036854775807 : Int))∧(-9223372036854775808 : Int)≤x.b i (1 : Nat)∧x.b i (1 : Nat)≤(9223372036854775807 : Int))∧((tchkE x != (0 : Int)) = true→(True∧(0 : Int) = mdV t p)∧(True∧mdB t p = false)∧(True∧tchkE x = tchkE t)∧True)∧((tchkE x != (0 : Int)) = false→(∃ (g : Nat), g≤t.n∧True∧((True∧(0 : Int) = (↑g : Int))∧True)∧(True∧∀ (j : Nat), j < (72 : Nat)→True∧decide (j < g) = false)∧(True∧∀ (ks : List Int), none = numM t.b g ks)∧True)∧∀ (g : Nat), g≤t.n→(decide ((↑g : Int) < (↑t.n : Int)) = true→(0 : Int)≤(↑g : Int)∧(↑g : Int) < (↑t.n : Int)∧(0 : Int)≤(↑g : Int)∧(↑g : Int) < (↑(72 : Nat) : Int)∧inRange IntKind.i64 (t.b g (0 : Nat))∧inRange IntKind.i64 (t.b g ((0 : Nat) + (1 : Nat)))∧inRange IntKind.i64 ((↑g : Int) + (1 : Int))∧∃ (g' : Nat), g'≤t.n∧t.n - g' < t.n - g∧True∧((True∧(↑g : Int) + (1 : Int) = (↑g' : Int))∧True)∧(True∧∀ (j : Nat), j < (72 : Nat)→True∧(if j = (0 : Nat) + g * (1 : Nat) + (0 : Nat) then true else decide (j < g)) = decide (j < g'))∧(True∧∀ (ks : List Int), (if ks = [t.b g (0 : Nat), t.b g ((0 : Nat) + (1 : Nat))] then some (↑g : Int) else numM t.b g ks) = numM t.b g' ks)∧True)∧(decide ((↑g : Int) < (↑t.n : Int)) = false→(∃ (g_1 : Nat), (g_1≤p.np∧okI t p g_1 = true∧LvOk t p g_1 (0 : Nat))∧True∧((True∧(0 : Int) = (↑g_1 : Int))∧True)∧(True∧∀ (j : Nat), j < (72 : Nat)→True∧decide (j < g) = lvB t p g_1 (0 : Nat) j)∧True)∧∀ (g_1 : Nat), g_1≤p.np∧okI t p g_1 = true∧LvOk t p g_1 (0 : Nat)→(decide ((↑g_1 : Int) < (↑p.np : Int)) = true→(0 : Int)≤(↑g_1 : Int)∧(↑g_1 : Int) < (↑p.np : Int)∧(decide ((↑(p.len g_1) : Int) < (2 : Int)) = true→(True∧(0 : Int) = mdV t p)∧(True∧mdB t p = false)∧(True∧(0 : Int) = tchkE t)∧True)∧(decide ((↑(p.len g_1) : Int) < (2 : Int)) = false→inRange IntKind.i64 ((↑(p.len g_1) : Int) - (1 : Int))∧(∃ (g : Nat × Nat), ((↑g_1 : Int) = (↑g.snd : Int)∧g.fst≤p.len g.snd - (1 : Nat)∧LvOk t p g.snd g.fst)∧True∧((True∧(0 : Int) = (↑g.fst : Int))∧True)∧(True∧∀ (j : Nat), j < (72 : Nat)→True∧lvB t p g_1 (0 : Nat) j = lvB t p g.snd g.fst j)∧True)∧∀ (g_2 : Nat × Nat), (↑g_1 : Int) = (↑g_2.snd : Int)∧g_2.fst≤p.len g_2.snd - (1 : Nat)∧LvOk t p g_2.snd g_2.fst→(decide ((↑g_2.fst : Int) < (↑(p.len g_1) : Int) - (1 : Int)) = true→(0 : Int)≤(↑g_2.fst : Int)∧(↑g_2.fst : Int) < (↑(p.len g_1) : Int)∧inRange IntKind.i64 ((↑g_2.fst : Int) + (1 : Int))∧(0 : Int)≤(↑g_2.fst : Int) + (1 : Int)∧(↑g_2.fst : Int) + (1 : Int) < (↑(p.len g_1) : Int)∧∃ (x : Int × Int), ((True∧p.kn g_1 g_2.fst = x.fst)∧(True∧True∧(1 : Nat) = (1 : Nat)∧∀ (i : Nat), i < (1 : Nat)→True∧(if i = (0 : Nat) then p.kn g_1 ((↑g_2.fst : Int) + (1 : Int)).toNat else (0 : Int)) = x.snd)∧True)∧True∧inRange IntKind.i64 (imin x.fst x.snd)∧inRange IntKind.i64 (imax x.fst x.snd)∧((!isSm (numM t.b g [imin x.fst x.snd, imax x.fst x.snd])) = true→(True∧(0 : Int) = mdV t p)∧(True∧mdB t p = false)∧(True∧(0 : Int) = tchkE t)∧True)∧((!isSm (numM t.b g [imin x.fst x.snd, imax x.fst x.snd])) = false→(0 : Int)≤valOf (numM t.b g [imin x.fst x.snd, imax x.fst x.snd])∧valOf (numM t.b g [imin x.fst x.snd, imax x.fst x.snd]) < (↑(72 : Nat) : Int)∧((!lvB t p g_2.snd g_2.fst ((0 : Nat) + (valOf (numM t.b g [imin x.fst x.snd, imax x.fst x.snd])).toNat * (1 : Nat) + (0 : Nat) + (0 : Nat))) = true→(True∧(0 : Int) = mdV t p)∧(True∧mdB t p = false)∧(True∧(0 : Int) = tchkE t)∧True)∧((!lvB t p g_2.snd g_2.fst ((0 : Nat) + (valOf (numM t.b g [imin x.fst x.snd, imax x.fst x.snd])).toNat * (1 : Nat) + (0 : Nat) + (0 : Nat))) = false→(0 : Int)≤valOf (numM t.b g [imin x.fst x.snd, imax x.fst x.snd])∧valOf (numM t.b g [imin x.fst x.snd, imax x.fst x.snd]) < (↑(72 : Nat) : Int)∧inRange IntKind.i64 ((↑g_2.fst : Int) + (1 : Int))∧∃ (g' : Nat × Nat), ((↑g_1 : Int) = (↑g'.snd : Int)∧g'.fst≤p.len g'.snd - (1 : Nat)∧LvOk t p g'.snd g'.fst)∧p.len g'.snd - g'.fst < p.len g_2.snd - g_2.fst∧True∧((True∧(↑g_2.fst : Int) + (1 : Int) = (↑g'.fst : Int))∧True)∧(True∧∀ (j : Nat), j < (72 : Nat)→True∧(if j = (0 : Nat) + (valOf (numM t.b g [imin x.fst x.snd, imax x.fst x.snd])).toNat * (1 : Nat) + (0 : Nat) then false else lvB t p g_2.snd g_2.fst j) = lvB t p g'.snd g'.fst j)∧True)))∧(decide ((↑g_2.fst : Int) < (↑(p.len g_1) : Int) - (1 : Int)) = false→inRange IntKind.i64 ((↑g_1 : Int) + (1 : Int))∧∃ (g' : Nat), (g'≤p.np∧okI t p g' = true∧LvOk t p g' (0 : Nat))∧p.np - g' < p.np - g_1∧True∧((True∧(↑g_1 : Int) + (1 : Int) = (↑g' : Int))∧True)∧(True∧∀ (j : Nat), j < (72 : Nat)→True∧lvB t p g_2.snd g_2.fst j = lvB t p g' (0 : Nat) j)∧True)))∧(decide ((↑g_1 : Int) < (↑p.np : Int)) = false→((!(lvB t p g_1 (0 : Nat) 0 == false && (lvB t p g_1 (0 : Nat) 1 == false && (lvB t p g_1 (0 : Nat) 2 == false && (lvB t p g_1 (0 : Nat) 3 == false && (lvB t p g_1 (0 : Nat) 4 == false && (lvB t p g_1 (0 : Nat) 5 == false && (lvB t p g_1 (0 : Nat) 6 == false && (lvB t p g_1 (0 : Nat) 7 == false && (lvB t p g_1 (0 : Nat) 8 == false && (lvB t p g_1 (0 : Nat) 9 == false && (lvB t p g_1 (0 : Nat) 10 == false && (lvB t p g_1 (0 : Nat) 11 == false && (lvB t p g_1 (0 : Nat) 12 == false && (lvB t p g_1 (0 : Nat) 13 == false && (lvB t p g_1 (0 : Nat) 14 == false && (lvB t p g_1 (0 : Nat) 15 == false && (lvB t p g_1 (0 : Nat) 16 == false && (lvB t p g_1 (0 : Nat) 17 == false && (lvB t p g_1 (0 : Nat) 18 == false && (lvB t p g_1 (0 : Nat) 19 == false && (lvB t p g_1 (0 : Nat) 20 == false && (lvB t p g_1 (0 : Nat) 21 == false && (lvB t p g_1 (0 : Nat) 22 == false && (lvB t p g_1 (0 : Nat) 23 == false && (lvB t p g_1 (0 : Nat) 24 == false && (lvB t p g_1 (0 : Nat) 25 == false && (lvB t p g_1 (0 : Nat) 26 == false && (lvB t p g_1 (0 : Nat) 27 == false && (lvB t p g_1 (0 : Nat) 28 == false && (lvB t p g_1 (0 : Nat) 29 == false && (lvB t p g_1 (0 : Nat) 30 == false && (lvB t p g_1 (0 : Nat) 31 == false && (lvB t p g_1 (0 : Nat) 32 == false && (lvB t p g_1 (0 : Nat) 33 == false && (lvB t p g_1 (0 : Nat) 34 == false && (lvB t p g_1 (0 : Nat) 35 == false && (lvB t p g_1 (0 : Nat) 36 == false && (lvB t p g_1 (0 : Nat) 37 == false && (lvB t p g_1 (0 : Nat) 38 == false && (lvB t p g_1 (0 : Nat) 39 == false && (lvB t p g_1 (0 : Nat) 40 == false && (lvB t p g_1 (0 : Nat) 41 == false && (lvB t p g_1 (0 : Nat) 42 == false && (lvB t p g_1 (0 : Nat) 43 == false && (lvB t p g_1 (0 : Nat) 44 == false && (lvB t p g_1 (0 : Nat) 45 == false && (lvB t p g_1 (0 : Nat) 46 == false && (lvB t p g_1 (0 : Nat) 47 == false && (lvB t p g_1 (0 : Nat) 48 == false && (lvB t p g_1 (0 : Nat) 49 == false && (lvB t p g_1 (0 : Nat) 50 == false && (lvB t p g_1 (0 : Nat) 51 == false && (lvB t p g_1 (0 : Nat) 52 == false && (lvB t p g_1 (0 : Nat) 53 == false && (lvB t p g_1 (0 : Nat) 54 == false && (lvB t p g_1 (0 : Nat) 55 == false && (lvB t p g_1 (0 : Nat) 56 == false && (lvB t p g_1 (0 : Nat) 57 == false && (lvB t p g_1 (0 : Nat) 58 == false && (lvB t p g_1 (0 : Nat) 59 == false && (lvB t p g_1 (0 : Nat) 60 == false && (lvB t p g_1 (0 : Nat) 61 == false && (lvB t p g_1 (0 : Nat) 62 == false && (lvB t p g_1 (0 : Nat) 63 == false && (lvB t p g_1 (0 : Nat) 64 == false && (lvB t p g_1 (0 : Nat) 65 == false && (lvB t p g_1 (0 : Nat) 66 == false && (lvB t p g_1 (0 : Nat) 67 == false && (lvB t p g_1 (0 : Nat) 68 == false && (lvB t p g_1 (0 : Nat) 69 == false && (lvB t p g_1 (0 : Nat) 70 == false && (lvB t p g_1 (0 : Nat) 71 == false && true))))))))))))))))))))))))))))))))))))))))))))))))))))))))))))))))))))))))) = true→(True∧(0 : Int) = mdV t p)∧(True∧mdB t p = false)∧(True∧(0 : Int) = tchkE t)∧True)∧((!(lvB t p g_1 (0 : Nat) 0 == false && (lvB t p g_1 (0 : Nat) 1 == false && (lvB t p g_1 (0 : Nat) 2 == false && (lvB t p g_1 (0 : Nat) 3 == false && (lvB t p g_1 (0 : Nat) 4 == false && (lvB t p g_1 (0 : Nat) 5 == false && (lvB t p g_1 (0 : Nat) 6 == false && (lvB t p g_1 (0 : Nat) 7 == false && (lvB t p g_1 (0 : Nat) 8 == false && (lvB t p g_1 (0 : Nat) 9 == false && (lvB t p g_1 (0 : Nat) 10 == false && (lvB t p g_1 (0 : Nat) 11 == false && (lvB t p g_1 (0 : Nat) 12 == false && (lvB t p g_1 (0 : Nat) 13 == false && (lvB t p g_1 (0 : Nat) 14 == false && (lvB t p g_1 (0 : Nat) 15 == false && (lvB t p g_1 (0 : Nat) 16 == false && (lvB t p g_1 (0 : Nat) 17 == false && (lvB t p g_1 (0 : Nat) 18 == false && (lvB t p g_1 (0 : Nat) 19 == false && (lvB t p g_1 (0 : Nat) 20 == false && (lvB t p g_1 (0 : Nat) 21 == false && (lvB t p g_1 (0 : Nat) 22 == false && (lvB t p g_1 (0 : Nat) 23 == false && (lvB t p g_1 (0 : Nat) 24 == false && (lvB t p g_1 (0 : Nat) 25 == false && (lvB t p g_1 (0 : Nat) 26 == false && (lvB t p g_1 (0 : Nat) 27 == false && (lvB t p g_1 (0 : Nat) 28 == false && (lvB t p g_1 (0 : Nat) 29 == false && (lvB t p g_1 (0 : Nat) 30 == false && (lvB t p g_1 (0 : Nat) 31 == false && (lvB t p g_1 (0 : Nat) 32 == false && (lvB t p g_1 (0 : Nat) 33 == false && (lvB t p g_1 (0 : Nat) 34 == false && (lvB t p g_1 (0 : Nat) 35 == false && (lvB t p g_1 (0 : Nat) 36 == false && (lvB t p g_1 (0 : Nat) 37 == false && (lvB t p g_1 (0 : Nat) 38 == false && (lvB t p g_1 (0 : Nat) 39 == false && (lvB t p g_1 (0 : Nat) 40 == false && (lvB t p g_1 (0 : Nat) 41 == false && (lvB t p g_1 (0 : Nat) 42 == false && (lvB t p g_1 (0 : Nat) 43 == false && (lvB t p g_1 (0 : Nat) 44 == false && (lvB t p g_1 (0 : Nat) 45 == false && (lvB t p g_1 (0 : Nat) 46 == false && (lvB t p g_1 (0 : Nat) 47 == false && (lvB t p g_1 (0 : Nat) 48 == false && (lvB t p g_1 (0 : Nat) 49 == false && (lvB t p g_1 (0 : Nat) 50 == false && (lvB t p g_1 (0 : Nat) 51 == false && (lvB t p g_1 (0 : Nat) 52 == false && (lvB t p g_1 (0 : Nat) 53 == false && (lvB t p g_1 (0 : Nat) 54 == false && (lvB t p g_1 (0 : Nat) 55 == false && (lvB t p g_1 (0 : Nat) 56 == false && (lvB t p g_1 (0 : Nat) 57 == false && (lvB t p g_1 (0 : Nat) 58 == false && (lvB t p g_1 (0 : Nat) 59 == false && (lvB t p g_1 (0 : Nat) 60 == false && (lvB t p g_1 (0 : Nat) 61 == false && (lvB t p g_1 (0 : Nat) 62 == false && (lvB t p g_1 (0 : Nat) 63 == false && (lvB t p g_1 (0 : Nat) 64 == false && (lvB t p g_1 (0 : Nat) 65 == false && (lvB t p g_1 (0 : Nat) 66 == false && (lvB t p g_1 (0 : Nat) 67 == false && (lvB t p g_1 (0 : Nat) 68 == false && (lvB t p g_1 (0 : Nat) 69 == false && (lvB t p g_1 (0 : Nat) 70 == false && (lvB t p g_1 (0 : Nat) 71 == false && true))))))))))))))))))))))))))))))))))))))))))))))))))))))))))))))))))))))))) = false→∃ (x : TwAsk), ((True∧((((True∧True∧t.w = x.t.w)∧True∧t.h = x.t.h)∧True∧True∧t.n = x.t.n∧∀ (i : Nat), i < t.n→(True∧t.b i 0 = x.t.b i 0)∧t.b i 1 = x.t.b i 1)∧True∧t.m = x.t.m)∧True∧t.k = x.t.k)∧(True∧(↑p.np : Int) = (↑x.p : Int))∧True)∧(tk0 x.t = true∧x.t.n≤(72 : Nat)∧x.p≤(1000 : Nat))∧(True∧twV x.t (↑x.p : Int) = mdV t p)∧(True∧mdB t p = true)∧(True∧(0 : Int) = tchkE t)∧True))))) (by kernel_rfl) ?_
 simp only [true_and, and_true, inR, Prod.exists, Prod.forall, and_assoc, exists_and_left, exists_eq_left', exists_eq_left, forall_eq, exists_const, forall_const, loopN, loopM, fa2, fas, fas2, dup1, dup2, dup3, dup4, ite_true, exhs, exhn, exhz, exho, exA, ex1, ex2, ex3, ex4, ex5, beqI, bneI, decide_true, Bool.true_and, decide_eq_true_eq, decide_eq_false_iff_not, ne_eq, Decidable.not_not]
 obtain ⟨⟨hn, hb⟩, hp⟩ := (show (t.n < 4611686018427387904 ∧ ∀ i, i < t.n → iR (t.b i 0) ∧ iR (t.b i 1)) ∧ p.wf from ha)
 have hnp := hp.1
 refine exTn ⟨hn, fun i hi => ⟨(hb i hi).1.1, (hb i hi).1.2, (hb i hi).2.1, (hb i hi).2.2⟩, fun e => ⟨(md_no e).1, (md_no e).2, rfl⟩, fun e => ?_⟩
 have hc := tk_of e
 have T := tchk_ok hc
 have h72 := T.few
 refine ⟨⟨0, by omega, rfl, fun j _ => by omega, fun _ => rfl⟩, fun g hg => ⟨by omega, by omega, by omega, by omega, (hb g hg).1.1, (hb g hg).1.2, (hb g hg).2.1, (hb g hg).2.2, by omega, by omega, g + 1, by omega, by omega, rfl, fun j hj => ?_, fun ks => rfl⟩, ⟨0, by omega, rfl, ⟨rfl, fun j hj => by simp [cntI, cntK]⟩, rfl, fun j hj => ?_⟩, fun g hg hh => ⟨by omega, by omega, fun hl => md_isnt hc (no_len hg (by omega)), fun hl => ⟨by omega, by have := (hp.2 g hg).1; omega, ⟨0, by omega, hh.2, rfl, fun _ _ => rfl⟩, fun a b hab => ⟨fun hlt => ?_, fun hge => ?_⟩⟩⟩, fun hh => ⟨fun h => ?_, fun h => ?_⟩⟩
 · by_cases d : j = g
   · rw [if_pos (by omega), decide_eq_true (show j < g + 1 by omega)]
   · rw [if_neg (by omega)]; apply decide_eq_decide.2; omega
 · unfold lvB cntI cntK; simp
 · obtain ⟨eb, hal, hL⟩ := hab
   obtain rfl : b = g := by omega
   have hlen := (hp.2 b hg).1
   have r1 := (hp.2 b hg).2 a (by omega)
   have r2 := (hp.2 b hg).2 (a + 1) (by omega)
   have up : ((a : Int) + 1).toNat = a + 1 := by omega
   rw [up]
   refine ⟨by omega, by omega, by omega, by omega, by omega, by omega, p.kn b (a + 1), fun i hi => if_pos (by omega), ?_⟩
   have eL : imin (p.kn b a) (p.kn b (a + 1)) = stL p b a := rfl
   have eH : imax (p.kn b a) (p.kn b (a + 1)) = stH p b a := rfl
   rw [eL, eH]
   obtain ⟨rl, rh⟩ := st_R r1 r2
   refine ⟨rl.1, rl.2, rh.1, rh.2, ?_⟩
   cases q : numM t.b t.n [stL p b a, stH p b a] with
   | none => exact ⟨fun _ => md_isnt hc (no_has (k := a) hg (by omega) (by unfold hasB; rw [numM_none q]; rfl)), fun h => by cases h⟩
   | some v =>
     obtain ⟨c, hcn, rfl, c0, c1⟩ := numM_some q
     have qe : barEq t.b (stL p b a) (stH p b a) c = true := barEq_iff.2 ⟨c0, c1⟩
     have ix : 0 + (valOf (some (c : Int))).toNat * 1 + 0 = c := by show 0 + (c : Int).toNat * 1 + 0 = c; omega
     have ix2 : 0 + (valOf (some (c : Int))).toNat * 1 + 0 + 0 = c := ix
     have other : ∀ j, j < t.n → j ≠ c → barEq t.b (stL p b a) (stH p b a) j = false := fun j hj ne => by
       cases e : barEq t.b (stL p b a) (stH p b a) j with
       | false => rfl
       | true =>
         obtain ⟨e0, e1⟩ := barEq_iff.1 e
         exact absurd (T.dif j hj c hcn (e0.trans c0.symm) (e1.trans c1.symm)) ne
     have sc : cntK t p b c (a + 1) = cntK t p b c a + 1 := by rw [cntK, if_pos qe]
     have so : ∀ j, j < t.n → j ≠ c → cntK t p b j (a + 1) = cntK t p b j a := fun j hj ne => by rw [cntK, if_neg (by rw [other j hj ne]; decide)]; rfl
     refine ⟨fun h => (by cases h), fun _ => ⟨by show 0 ≤ (c : Int); omega, by show (c : Int) < 72; omega, ?_⟩⟩
     rw [ix2]
     refine ⟨fun h => md_isnt hc (no_two hg (by omega) hcn qe ?_), fun h => ?_⟩
     · rw [Bool.not_eq_true'] at h
       unfold lvB at h
       rw [decide_eq_true hcn, Bool.true_and, decide_eq_false_iff_not] at h
       omega
     · rw [Bool.not_eq_false'] at h
       unfold lvB at h
       rw [decide_eq_true hcn, Bool.true_and, decide_eq_true_eq] at h
       refine ⟨by show 0 ≤ (c : Int); omega, by show (c : Int) < 72; omega, by omega, by omega, a + 1, by omega, ⟨?_, fun j hj => ?_⟩, by omega, rfl, fun j hj => ?_⟩
       · rw [fndK_succ, hL.fnd]; exact hasB_iff.2 ⟨c, hcn, c0, c1⟩
       · by_cases d : j = c
         · subst d; omega
         · rw [so j hj d]; exact hL.le j hj
       · by_cases d : j = c
         · subst d
           rw [if_pos rfl]; unfold lvB
           rw [decide_eq_false (show ¬ cntI t p j b + cntK t p b j (a + 1) = 0 by omega), Bool.and_false]
         · rw [if_neg d]
           unfold lvB
           by_cases hjn : j < t.n
           · rw [so j hjn d]
           · rw [decide_eq_false hjn]; rfl
 · obtain ⟨eb, hal, hL⟩ := hab
   obtain rfl : b = g := by omega
   have hlen := (hp.2 b hg).1
   obtain rfl : a = p.len b - 1 := by omega
   have e : ∀ j, cntI t p j (b + 1) + cntK t p (b + 1) j 0 = cntI t p j b + cntK t p b j (p.len b - 1) := fun j => rfl
   refine ⟨by omega, by omega, b + 1, by omega, ?_, ⟨rfl, fun j hj => by rw [e]; exact hL.le j hj⟩, by omega, rfl, fun j hj => ?_⟩
   · rw [okI_succ, hh.1, hL.fnd, decide_eq_true (by omega)]; rfl
   · unfold lvB; rw [e]
 · obtain ⟨ho, hL⟩ := hh
   have h : (!noneF (lvB t p p.np 0) 72 0) = true := h
   rw [Bool.not_eq_true'] at h
   refine md_isnt hc ?_
   cases q : isM t p with
   | false => rfl
   | true =>
     unfold isM at q
     rw [Bool.and_eq_true, allB_iff] at q
     have : noneF (lvB t p p.np 0) 72 0 = true := noneF_iff.2 fun j _ hj => by
       unfold lvB
       by_cases hjn : j < t.n
       · have := q.2 j hjn
         rw [decide_eq_true_eq] at this
         rw [decide_eq_false (show ¬ cntI t p j p.np + cntK t p p.np j 0 = 0 by omega), Bool.and_false]
       · rw [decide_eq_false hjn]; rfl
     rw [this] at h; cases h
 · obtain ⟨ho, hL⟩ := hh
   have h : (!noneF (lvB t p p.np 0) 72 0) = false := h
   rw [Bool.not_eq_false'] at h
   have hM : isM t p = true := by
     unfold isM
     rw [ho, Bool.true_and, allB_iff]
     intro j hj
     have a := noneF_iff.1 h j (by omega) (by omega)
     unfold lvB at a
     rw [decide_eq_true hj, Bool.true_and, decide_eq_false_iff_not] at a
     have b := hL.le j hj
     have c : cntK t p p.np j 0 = 0 := rfl
     rw [decide_eq_true_eq]; omega
   exact exTw ⟨T.t0, h72, by have := np_few hM; show p.np ≤ 1000; omega, md_is hc hM⟩
end Go.Proofs.YtcfmdhlohahhcaaDoor
