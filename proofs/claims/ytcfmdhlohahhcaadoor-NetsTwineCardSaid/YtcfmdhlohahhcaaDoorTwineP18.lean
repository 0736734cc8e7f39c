/- Texts for the law of the last part, part 18. -/
import Derived.Test.YtcfmdhlohahhcaaDoorTwineP17
set_option linter.unusedSimpArgs false
set_option linter.unusedVariables false
namespace Go.Proofs.YtcfmdhlohahhcaaDoor
open Go Go.Sx Nm
set_option maxRecDepth 100000
def torn4T : Torn := ⟨3, 2, 4, fun i j => ([[0, 1], [1, 2], [1, 4], [0, 3]].getD i []).getD j 0, 10, 3⟩
def torn3T : Torn := ⟨3, 2, 3, fun i j => ([[0, 1], [1, 2], [1, 4]].getD i []).getD j 0, 10, 3⟩
def pcs3 : List (List Int) := [[0, 1, 4], [1, 2]]
theorem tn4 : twnV torn4T = 52 := by decide +kernel
theorem tc4 : tchkE torn4T = 0 := by decide +kernel
theorem tc3 : tchk torn3T = true := by decide +kernel
theorem tE3 : tchkE torn3T = 0 := by decide +kernel
theorem fe3 : few (torn3T.w * torn3T.h).toNat torn3T.n torn3T.b = 2 := by decide +kernel
theorem md3 : mdV torn3T (pcsOf pcs3) = 42 := by decide +kernel
theorem mb3 : mdB torn3T (pcsOf pcs3) = true := by decide +kernel
theorem me3 : mendE torn3T = 0 := by decide +kernel
theorem wf3 : torn3T.wf := ⟨by decide, fun i hi => by
 match i, hi with
 | 0, _ => exact ⟨⟨by decide, by decide⟩, by decide, by decide⟩
 | 1, _ => exact ⟨⟨by decide, by decide⟩, by decide, by decide⟩
 | 2, _ => exact ⟨⟨by decide, by decide⟩, by decide, by decide⟩⟩
theorem wf4 : torn4T.wf := ⟨by decide, fun i hi => by
 match i, hi with
 | 0, _ => exact ⟨⟨by decide, by decide⟩, by decide, by decide⟩
 | 1, _ => exact ⟨⟨by decide, by decide⟩, by decide, by decide⟩
 | 2, _ => exact ⟨⟨by decide, by decide⟩, by decide, by decide⟩
 | 3, _ => exact ⟨⟨by decide, by decide⟩, by decide, by decide⟩⟩
theorem wp3 : (pcsOf pcs3).wf := by
 refine ⟨by decide, fun i hi => ?_⟩
 have hi : i < 2 := hi
 match i, hi with
 | 0, _ => exact ⟨by decide, fun k hk => by
     have hk : k < 3 := hk
     match k, hk with
     | 0, _ => exact ⟨by decide, by decide⟩
     | 1, _ => exact ⟨by decide, by decide⟩
     | 2, _ => exact ⟨by decide, by decide⟩⟩
 | 1, _ => exact ⟨by decide, fun k hk => by
     have hk : k < 2 := hk
     match k, hk with
     | 0, _ => exact ⟨by decide, by decide⟩
     | 1, _ => exact ⟨by decide, by decide⟩⟩
theorem q21g : CallQ Tryd.prog E0 21 [] [.v (.c (.bool true))] := by
 refine CallQ.congr (E := E2) (E' := E0) E2_gl.symm (bare_say E2_ok [(52, sTo), (28, sMd), (32, sTwn), (26, sShift), (24, sCanF), (22, sApart), (19, sFouls), (15, sLies), (46, sTwo), (41, sTwo)] ((show SigsOk Tryd.prog E0 [(52, sTo), (28, sMd), (32, sTwn), (26, sShift), (24, sCanF), (22, sApart), (19, sFouls), (15, sLies), (46, sTwo), (41, sTwo)] from ((((((((((SigsOk.nil.cons u41 fun x _ => q41 x).cons u46 fun x _ => q46 x).cons u15 q15).cons u19 q19).cons u22 q22).cons u24 q24).cons u26 q26).cons u32 q32).cons u28 q28).cons u52 q52)).congr E2_gl) [] EvensOk.nil runs { live := true } (fuel := 8) ?_)
 refine of_red (q := ∃ (x : Int × Int), ((True ∧ (10 : Int) = x.fst) ∧ (True ∧ (20 : Int) = x.snd) ∧ True) ∧ True ∧ ∃ (x_1 : Int × Int), ((True ∧ (10 : Int) = x_1.fst) ∧ (True ∧ (20 : Int) = x_1.snd) ∧ True) ∧ True ∧ ∃ (x_2 : Int × Int), ((True ∧ (10 : Int) = x_2.fst) ∧ (True ∧ (20 : Int) = x_2.snd) ∧ True) ∧ True ∧ (0 : Int) ≤ (3 : Int) ∧ (3 : Int) = (3 : Int) ∧ (↑(16 : Nat) : Int) * (3 : Int) ≤ (140737488355328 : Int) ∧ (3 : Int) < (4611686018427387904 : Int) ∧ ∃ (x_3 : Int × Int), ((True ∧ (25 : Int) = x_3.fst) ∧ (True ∧ (0 : Int) = x_3.snd) ∧ True) ∧ True ∧ ∃ (x_4 : LAsk), ((True ∧ (((True ∧ True ∧ True ∧ (3 : Nat) = x_4.x.hE ∧ ∀ (i : Nat), i < (3 : Nat) → (True ∧ (if i = (2 : Nat) then x_2.fst else if i = (1 : Nat) then x_1.fst else if i = (0 : Nat) then x.fst else (0 : Int)) = x_4.x.e i 0) ∧ (if i = (2 : Nat) then x_2.snd else if i = (1 : Nat) then x_1.snd else if i = (0 : Nat) then x.snd else (0 : Int)) = x_4.x.e i 1) ∧ True ∧ True ∧ (3 : Nat) = x_4.x.hN ∧ ∀ (i : Nat), i < (3 : Nat) → (True ∧ (0 : Int) = x_4.x.n i 0) ∧ (0 : Int) = x_4.x.n i 1) ∧ True ∧ (5 : Int) = x_4.x.gap) ∧ True ∧ True ∧ (2 : Nat) = x_4.x.k ∧ ∀ (i : Nat), i < (2 : Nat) → (((((((((True ∧ (if i = (1 : Nat) then x_3.fst else if i = (0 : Nat) then (0 : Int) else (0 : Int)) = x_4.x.net i 0) ∧ (if i = (1 : Nat) then x_3.snd else if i = (0 : Nat) then (0 : Int) else (0 : Int)) = x_4.x.net i 1) ∧ (if i = (1 : Nat) then (100 : Int) else if i = (0 : Nat) then (100 : Int) else (0 : Int)) = x_4.x.net i 2) ∧ (if i = (1 : Nat) then (1 : Int) else if i = (0 : Nat) then (1 : Int) else (0 : Int)) = x_4.x.net i 3) ∧ (if i = (1 : Nat) then (1 : Int) else if i = (0 : Nat) then (0 : Int) else (0 : Int)) = x_4.x.net i 4) ∧ (if i = (1 : Nat) then (3 : Int) else if i = (0 : Nat) then (3 : Int) else (0 : Int)) = x_4.x.net i 5) ∧ (if i = (1 : Nat) then (0 : Int) else if i = (0 : Nat) then (0 : Int) else (0 : Int)) = x_4.x.net i 6) ∧ (if i = (1 : Nat) then (0 : Int) else if i = (0 : Nat) then (0 : Int) else (0 : Int)) = x_4.x.net i 7) ∧ (if i = (1 : Nat) then (0 : Int) else if i = (0 : Nat) then (0 : Int) else (0 : Int)) = x_4.x.net i 8) ∧ (if i = (1 : Nat) then (0 : Int) else if i = (0 : Nat) then (0 : Int) else (0 : Int)) = x_4.x.net i 9) ∧ (True ∧ (((True ∧ True ∧ True ∧ (3 : Nat) = x_4.t.nE ∧ ∀ (i : Nat), i < (3 : Nat) → True ∧ (if i = (2 : Nat) then (14 : Int) else if i = (1 : Nat) then (12 : Int) else if i = (0 : Nat) then (10 : Int) else (0 : Int)) = x_4.t.e i) ∧ True ∧ True ∧ (3 : Nat) = x_4.t.nN ∧ ∀ (i : Nat), i < (3 : Nat) → True ∧ (if i = (2 : Nat) then (0 : Int) else if i = (1 : Nat) then (0 : Int) else if i = (0 : Nat) then (0 : Int) else (0 : Int)) = x_4.t.n i) ∧ True ∧ True ∧ (2 : Nat) = x_4.t.nSE ∧ ∀ (i : Nat), i < (2 : Nat) → True ∧ (if i = (1 : Nat) then (0 : Int) else if i = (0 : Nat) then (0 : Int) else (0 : Int)) = x_4.t.se i) ∧ True ∧ True ∧ (2 : Nat) = x_4.t.nSN ∧ ∀ (i : Nat), i < (2 : Nat) → True ∧ (if i = (1 : Nat) then (0 : Int) else if i = (0 : Nat) then (0 : Int) else (0 : Int)) = x_4.t.sn i) ∧ (True ∧ (1 : Int) = x_4.k) ∧ (True ∧ (3 : Int) = x_4.h) ∧ True) ∧ ((x_4.x.hE < (4611686018427387904 : Nat) ∧ x_4.x.hN < (4611686018427387904 : Nat) ∧ x_4.x.k < (4611686018427387904 : Nat)) ∧ x_4.t.nE < (4611686018427387904 : Nat) ∧ x_4.t.nN < (4611686018427387904 : Nat) ∧ x_4.t.nSE < (4611686018427387904 : Nat) ∧ x_4.t.nSN < (4611686018427387904 : Nat)) ∧ ∃ (x : Int × Int), ((True ∧ (10 : Int) = x.fst) ∧ (True ∧ (20 : Int) = x.snd) ∧ True) ∧ True ∧ ∃ (x_5 : Int × Int), ((True ∧ (10 : Int) = x_5.fst) ∧ (True ∧ (20 : Int) = x_5.snd) ∧ True) ∧ True ∧ ∃ (x_6 : Int × Int), ((True ∧ (10 : Int) = x_6.fst) ∧ (True ∧ (20 : Int) = x_6.snd) ∧ True) ∧ True ∧ (0 : Int) ≤ (3 : Int) ∧ (3 : Int) = (3 : Int) ∧ (↑(16 : Nat) : Int) * (3 : Int) ≤ (140737488355328 : Int) ∧ (3 : Int) < (4611686018427387904 : Int) ∧ ∃ (x_7 : Int × Int), ((True ∧ (25 : Int) = x_7.fst) ∧ (True ∧ (0 : Int) = x_7.snd) ∧ True) ∧ True ∧ ∃ (x_8 : Fleet × Truth), ((True ∧ (((True ∧ True ∧ True ∧ (3 : Nat) = x_8.fst.hE ∧ ∀ (i : Nat), i < (3 : Nat) → (True ∧ (if i = (2 : Nat) then x_6.fst else if i = (1 : Nat) then x_5.fst else if i = (0 : Nat) then x.fst else (0 : Int)) = x_8.fst.e i 0) ∧ (if i = (2 : Nat) then x_6.snd else if i = (1 : Nat) then x_5.snd else if i = (0 : Nat) then x.snd else (0 : Int)) = x_8.fst.e i 1) ∧ True ∧ True ∧ (3 : Nat) = x_8.fst.hN ∧ ∀ (i : Nat), i < (3 : Nat) → (True ∧ (0 : Int) = x_8.fst.n i 0) ∧ (0 : Int) = x_8.fst.n i 1) ∧ True ∧ (5 : Int) = x_8.fst.gap) ∧ True ∧ True ∧ (2 : Nat) = x_8.fst.k ∧ ∀ (i : Nat), i < (2 : Nat) → (((((((((True ∧ (if i = (1 : Nat) then x_7.fst else if i = (0 : Nat) then (0 : Int) else (0 : Int)) = x_8.fst.net i 0) ∧ (if i = (1 : Nat) then x_7.snd else if i = (0 : Nat) then (0 : Int) else (0 : Int)) = x_8.fst.net i 1) ∧ (if i = (1 : Nat) then (100 : Int) else if i = (0 : Nat) then (100 : Int) else (0 : Int)) = x_8.fst.net i 2) ∧ (if i = (1 : Nat) then (1 : Int) else if i = (0 : Nat) then (1 : Int) else (0 : Int)) = x_8.fst.net i 3) ∧ (if i = (1 : Nat) then (1 : Int) else if i = (0 : Nat) then (0 : Int) else (0 : Int)) = x_8.fst.net i 4) ∧ (if i = (1 : Nat) then (3 : Int) else if i = (0 : Nat) then (3 : Int) else (0 : Int)) = x_8.fst.net i 5) ∧ (if i = (1 : Nat) then (0 : Int) else if i = (0 : Nat) then (0 : Int) else (0 : Int)) = x_8.fst.net i 6) ∧ (if i = (1 : Nat) then (0 : Int) else if i = (0 : Nat) then (0 : Int) else (0 : Int)) = x_8.fst.net i 7) ∧ (if i = (1 : Nat) then (0 : Int) else if i = (0 : Nat) then (0 : Int) else (0 : Int)) = x_8.fst.net i 8) ∧ (if i = (1 : Nat) then (0 : Int) else if i = (0 : Nat) then (0 : Int) else (0 : Int)) = x_8.fst.net i 9) ∧ (True ∧ (((True ∧ True ∧ True ∧ (3 : Nat) = x_8.snd.nE ∧ ∀ (i : Nat), i < (3 : Nat) → True ∧ (if i = (2 : Nat) then (10 : Int) else if i = (1 : Nat) then (10 : Int) else if i = (0 : Nat) then (20 : Int) else (0 : Int)) = x_8.snd.e i) ∧ True ∧ True ∧ (3 : Nat) = x_8.snd.nN ∧ ∀ (i : Nat), i < (3 : Nat) → True ∧ (if i = (2 : Nat) then (0 : Int) else if i = (1 : Nat) then (0 : Int) else if i = (0 : Nat) then (0 : Int) else (0 : Int)) = x_8.snd.n i) ∧ True ∧ True ∧ (2 : Nat) = x_8.snd.nSE ∧ ∀ (i : Nat), i < (2 : Nat) → True ∧ (if i = (1 : Nat) then (0 : Int) else if i = (0 : Nat) then (0 : Int) else (0 : Int)) = x_8.snd.se i) ∧ True ∧ True ∧ (2 : Nat) = x_8.snd.nSN ∧ ∀ (i : Nat), i < (2 : Nat) → True ∧ (if i = (1 : Nat) then (0 : Int) else if i = (0 : Nat) then (0 : Int) else (0 : Int)) = x_8.snd.sn i) ∧ True) ∧ ((x_8.fst.hE < (4611686018427387904 : Nat) ∧ x_8.fst.hN < (4611686018427387904 : Nat) ∧ x_8.fst.k < (4611686018427387904 : Nat)) ∧ x_8.snd.nE < (4611686018427387904 : Nat) ∧ x_8.snd.nN < (4611686018427387904 : Nat) ∧ x_8.snd.nSE < (4611686018427387904 : Nat) ∧ x_8.snd.nSN < (4611686018427387904 : Nat)) ∧ ∃ (x : Int × Int), ((True ∧ (10 : Int) = x.fst) ∧ (True ∧ (20 : Int) = x.snd) ∧ True) ∧ True ∧ ∃ (x_9 : Int × Int), ((True ∧ (10 : Int) = x_9.fst) ∧ (True ∧ (20 : Int) = x_9.snd) ∧ True) ∧ True ∧ ∃ (x_10 : Int × Int), ((True ∧ (10 : Int) = x_10.fst) ∧ (True ∧ (20 : Int) = x_10.snd) ∧ True) ∧ True ∧ (0 : Int) ≤ (3 : Int) ∧ (3 : Int) = (3 : Int) ∧ (↑(16 : Nat) : Int) * (3 : Int) ≤ (140737488355328 : Int) ∧ (3 : Int) < (4611686018427387904 : Int) ∧ ∃ (x_11 : Int × Int), ((True ∧ (25 : Int) = x_11.fst) ∧ (True ∧ (0 : Int) = x_11.snd) ∧ True) ∧ True ∧ (0 : Int) ≤ (1 : Int) ∧ (1 : Int) < (↑(2 : Nat) : Int) ∧ ∃ (x_12 : Int × Int), ((True ∧ (-4 : Int) = x_12.fst) ∧ (True ∧ (0 : Int) = x_12.snd) ∧ True) ∧ True ∧ (0 : Int) ≤ (1 : Int) ∧ (1 : Int) < (↑(2 : Nat) : Int) ∧ ∃ (x_13 : QAsk), ((True ∧ (((True ∧ True ∧ True ∧ (3 : Nat) = x_13.x.hE ∧ ∀ (i : Nat), i < (3 : Nat) → (True ∧ (if i = (2 : Nat) then x_10.fst else if i = (1 : Nat) then x_9.fst else if i = (0 : Nat) then x.fst else (0 : Int)) = x_13.x.e i 0) ∧ (if i = (2 : Nat) then x_10.snd else if i = (1 : Nat) then x_9.snd else if i = (0 : Nat) then x.snd else (0 : Int)) = x_13.x.e i 1) ∧ True ∧ True ∧ (3 : Nat) = x_13.x.hN ∧ ∀ (i : Nat), i < (3 : Nat) → (True ∧ (0 : Int) = x_13.x.n i 0) ∧ (0 : Int) = x_13.x.n i 1) ∧ True ∧ (5 : Int) = x_13.x.gap) ∧ True ∧ True ∧ (2 : Nat) = x_13.x.k ∧ ∀ (i : Nat), i < (2 : Nat) → (((((((((True ∧ (if i = (1 : Nat) then (50 : Int) else if i = (1 : Nat) then (50 : Int) else if i = (1 : Nat) then x_11.fst else if i = (0 : Nat) then (0 : Int) else (0 : Int)) = x_13.x.net i 0) ∧ (if i = (1 : Nat) then x_11.snd else if i = (1 : Nat) then x_11.snd else if i = (1 : Nat) then x_11.snd else if i = (0 : Nat) then (0 : Int) else (0 : Int)) = x_13.x.net i 1) ∧ (if i = (1 : Nat) then (100 : Int) else if i = (1 : Nat) then (100 : Int) else if i = (1 : Nat) then (100 : Int) else if i = (0 : Nat) then (100 : Int) else (0 : Int)) = x_13.x.net i 2) ∧ (if i = (1 : Nat) then (1 : Int) else if i = (1 : Nat) then (1 : Int) else if i = (1 : Nat) then (1 : Int) else if i = (0 : Nat) then (1 : Int) else (0 : Int)) = x_13.x.net i 3) ∧ (if i = (1 : Nat) then (1 : Int) else if i = (1 : Nat) then (1 : Int) else if i = (1 : Nat) then (1 : Int) else if i = (0 : Nat) then (0 : Int) else (0 : Int)) = x_13.x.net i 4) ∧ (if i = (1 : Nat) then (3 : Int) else if i = (1 : Nat) then (3 : Int) else if i = (1 : Nat) then (3 : Int) else if i = (0 : Nat) then (3 : Int) else (0 : Int)) = x_13.x.net i 5) ∧ (if i = (1 : Nat) then x_12.fst else if i = (1 : Nat) then (0 : Int) else if i = (1 : Nat) then (0 : Int) else if i = (0 : Nat) then (0 : Int) else (0 : Int)) = x_13.x.net i 6) ∧ (if i = (1 : Nat) then x_12.snd else if i = (1 : Nat) then (0 : Int) else if i = (1 : Nat) then (0 : Int) else if i = (0 : Nat) then (0 : Int) else (0 : Int)) = x_13.x.net i 7) ∧ (if i = (1 : Nat) then (0 : Int) else if i = (1 : Nat) then (0 : Int) else if i = (1 : Nat) then (0 : Int) else if i = (0 : Nat) then (0 : Int) else (0 : Int)) = x_13.x.net i 8) ∧ (if i = (1 : Nat) then (0 : Int) else if i = (1 : Nat) then (0 : Int) else if i = (1 : Nat) then (0 : Int) else if i = (0 : Nat) then (0 : Int) else (0 : Int)) = x_13.x.net i 9) ∧ (True ∧ (0 : Int) = x_13.i) ∧ (True ∧ (1 : Int) = x_13.k) ∧ (True ∧ (3 : Int) = x_13.h) ∧ True) ∧ (x_13.x.hE < (4611686018427387904 : Nat) ∧ x_13.x.hN < (4611686018427387904 : Nat) ∧ x_13.x.k < (4611686018427387904 : Nat)) ∧ ∃ (x : Int × Int), ((True ∧ (10 : Int) = x.fst) ∧ (True ∧ (20 : Int) = x.snd) ∧ True) ∧ True ∧ ∃ (x_14 : Int × Int), ((True ∧ (10 : Int) = x_14.fst) ∧ (True ∧ (20 : Int) = x_14.snd) ∧ True) ∧ True ∧ ∃ (x_15 : Int × Int), ((True ∧ (10 : Int) = x_15.fst) ∧ (True ∧ (20 : Int) = x_15.snd) ∧ True) ∧ True ∧ (0 : Int) ≤ (3 : Int) ∧ (3 : Int) = (3 : Int) ∧ (↑(16 : Nat) : Int) * (3 : Int) ≤ (140737488355328 : Int) ∧ (3 : Int) < (4611686018427387904 : Int) ∧ ∃ (x_16 : Int × Int), ((True ∧ (25 : Int) = x_16.fst) ∧ (True ∧ (0 : Int) = x_16.snd) ∧ True) ∧ True ∧ ∃ (x_17 : Fleet), ((True ∧ (((True ∧ True ∧ True ∧ (3 : Nat) = x_17.hE ∧ ∀ (i : Nat), i < (3 : Nat) → (True ∧ (if i = (2 : Nat) then x_15.fst else if i = (1 : Nat) then x_14.fst else if i = (0 : Nat) then x.fst else (0 : Int)) = x_17.e i 0) ∧ (if i = (2 : Nat) then x_15.snd else if i = (1 : Nat) then x_14.snd else if i = (0 : Nat) then x.snd else (0 : Int)) = x_17.e i 1) ∧ True ∧ True ∧ (3 : Nat) = x_17.hN ∧ ∀ (i : Nat), i < (3 : Nat) → (True ∧ (0 : Int) = x_17.n i 0) ∧ (0 : Int) = x_17.n i 1) ∧ True ∧ (5 : Int) = x_17.gap) ∧ True ∧ True ∧ (2 : Nat) = x_17.k ∧ ∀ (i : Nat), i < (2 : Nat) → (((((((((True ∧ (if i = (1 : Nat) then x_16.fst else if i = (0 : Nat) then (0 : Int) else (0 : Int)) = x_17.net i 0) ∧ (if i = (1 : Nat) then x_16.snd else if i = (0 : Nat) then (0 : Int) else (0 : Int)) = x_17.net i 1) ∧ (if i = (1 : Nat) then (100 : Int) else if i = (0 : Nat) then (100 : Int) else (0 : Int)) = x_17.net i 2) ∧ (if i = (1 : Nat) then (1 : Int) else if i = (0 : Nat) then (1 : Int) else (0 : Int)) = x_17.net i 3) ∧ (if i = (1 : Nat) then (1 : Int) else if i = (0 : Nat) then (0 : Int) else (0 : Int)) = x_17.net i 4) ∧ (if i = (1 : Nat) then (3 : Int) else if i = (0 : Nat) then (3 : Int) else (0 : Int)) = x_17.net i 5) ∧ (if i = (1 : Nat) then (0 : Int) else if i = (0 : Nat) then (0 : Int) else (0 : Int)) = x_17.net i 6) ∧ (if i = (1 : Nat) then (0 : Int) else if i = (0 : Nat) then (0 : Int) else (0 : Int)) = x_17.net i 7) ∧ (if i = (1 : Nat) then (0 : Int) else if i = (0 : Nat) then (0 : Int) else (0 : Int)) = x_17.net i 8) ∧ (if i = (1 : Nat) then (0 : Int) else if i = (0 : Nat) then (0 : Int) else (0 : Int)) = x_17.net i 9) ∧ True) ∧ (x_17.hE < (4611686018427387904 : Nat) ∧ x_17.hN < (4611686018427387904 : Nat) ∧ x_17.k < (4611686018427387904 : Nat)) ∧ ∃ (x : Int × Int), ((True ∧ (10 : Int) = x.fst) ∧ (True ∧ (20 : Int) = x.snd) ∧ True) ∧ True ∧ ∃ (x_18 : Int × Int), ((True ∧ (10 : Int) = x_18.fst) ∧ (True ∧ (20 : Int) = x_18.snd) ∧ True) ∧ True ∧ ∃ (x_19 : Int × Int), ((True ∧ (10 : Int) = x_19.fst) ∧ (True ∧ (20 : Int) = x_19.snd) ∧ True) ∧ True ∧ (0 : Int) ≤ (3 : Int) ∧ (3 : Int) = (3 : Int) ∧ (↑(16 : Nat) : Int) * (3 : Int) ≤ (140737488355328 : Int) ∧ (3 : Int) < (4611686018427387904 : Int) ∧ ∃ (x_20 : Int × Int), ((True ∧ (25 : Int) = x_20.fst) ∧ (True ∧ (0 : Int) = x_20.snd) ∧ True) ∧ True ∧ ∃ (x_21 : Fleet × Int × Int), ((True ∧ (((True ∧ True ∧ True ∧ (3 : Nat) = x_21.fst.hE ∧ ∀ (i : Nat), i < (3 : Nat) → (True ∧ (if i = (2 : Nat) then x_19.fst else if i = (1 : Nat) then x_18.fst else if i = (0 : Nat) then x.fst else (0 : Int)) = x_21.fst.e i 0) ∧ (if i = (2 : Nat) then x_19.snd else if i = (1 : Nat) then x_18.snd else if i = (0 : Nat) then x.snd else (0 : Int)) = x_21.fst.e i 1) ∧ True ∧ True ∧ (3 : Nat) = x_21.fst.hN ∧ ∀ (i : Nat), i < (3 : Nat) → (True ∧ (0 : Int) = x_21.fst.n i 0) ∧ (0 : Int) = x_21.fst.n i 1) ∧ True ∧ (5 : Int) = x_21.fst.gap) ∧ True ∧ True ∧ (2 : Nat) = x_21.fst.k ∧ ∀ (i : Nat), i < (2 : Nat) → (((((((((True ∧ (if i = (1 : Nat) then x_20.fst else if i = (0 : Nat) then (0 : Int) else (0 : Int)) = x_21.fst.net i 0) ∧ (if i = (1 : Nat) then x_20.snd else if i = (0 : Nat) then (0 : Int) else (0 : Int)) = x_21.fst.net i 1) ∧ (if i = (1 : Nat) then (100 : Int) else if i = (0 : Nat) then (100 : Int) else (0 : Int)) = x_21.fst.net i 2) ∧ (if i = (1 : Nat) then (1 : Int) else if i = (0 : Nat) then (1 : Int) else (0 : Int)) = x_21.fst.net i 3) ∧ (if i = (1 : Nat) then (1 : Int) else if i = (0 : Nat) then (0 : Int) else (0 : Int)) = x_21.fst.net i 4) ∧ (if i = (1 : Nat) then (3 : Int) else if i = (0 : Nat) then (3 : Int) else (0 : Int)) = x_21.fst.net i 5) ∧ (if i = (1 : Nat) then (0 : Int) else if i = (0 : Nat) then (0 : Int) else (0 : Int)) = x_21.fst.net i 6) ∧ (if i = (1 : Nat) then (0 : Int) else if i = (0 : Nat) then (0 : Int) else (0 : Int)) = x_21.fst.net i 7) ∧ (if i = (1 : Nat) then (0 : Int) else if i = (0 : Nat) then (0 : Int) else (0 : Int)) = x_21.fst.net i 8) ∧ (if i = (1 : Nat) then (0 : Int) else if i = (0 : Nat) then (0 : Int) else (0 : Int)) = x_21.fst.net i 9) ∧ (True ∧ (1 : Int) = x_21.snd.fst) ∧ (True ∧ (100 : Int) = x_21.snd.snd) ∧ True) ∧ (x_21.fst.hE < (4611686018427387904 : Nat) ∧ x_21.fst.hN < (4611686018427387904 : Nat) ∧ x_21.fst.k < (4611686018427387904 : Nat)) ∧ ((liErr x_4.x x_4.t x_4.k x_4.h != (0 : Int)) = true → True ∧ true = false) ∧ ((liErr x_4.x x_4.t x_4.k x_4.h != (0 : Int)) = false → ((fouE x_8.fst x_8.snd != (0 : Int)) = true → True ∧ true = false) ∧ ((fouE x_8.fst x_8.snd != (0 : Int)) = false → ((aqE x_13 != (0 : Int)) = true → True ∧ true = false) ∧ ((aqE x_13 != (0 : Int)) = false → ((canE x_17 != (0 : Int)) = true → True ∧ true = false) ∧ ((canE x_17 != (0 : Int)) = false → ((shE x_21.fst x_21.snd.fst x_21.snd.snd != (0 : Int)) = true → True ∧ true = false) ∧ ((shE x_21.fst x_21.snd.fst x_21.snd.snd != (0 : Int)) = false → ∃ (x : Int × Int), ((True ∧ (51 : Int) = x.fst) ∧ (True ∧ (0 : Int) = x.snd) ∧ True) ∧ True ∧ ((!(liR x_4.x x_4.t x_4.k x_4.h (liP x_4.x x_4.t.e x_4.t.se (0 : Nat) x_4.k.toNat x_4.h) == x.fst && (liR x_4.x x_4.t x_4.k x_4.h (liP x_4.x x_4.t.n x_4.t.sn (1 : Nat) x_4.k.toNat x_4.h) == x.snd && true))) = true → True ∧ true = false) ∧ ((!(liR x_4.x x_4.t x_4.k x_4.h (liP x_4.x x_4.t.e x_4.t.se (0 : Nat) x_4.k.toNat x_4.h) == x.fst && (liR x_4.x x_4.t x_4.k x_4.h (liP x_4.x x_4.t.n x_4.t.sn (1 : Nat) x_4.k.toNat x_4.h) == x.snd && true))) = false → ((!(oH (fouO x_8.fst x_8.snd) == (1 : Int) && (oI (fouO x_8.fst x_8.snd) == (0 : Int) && (oK (fouO x_8.fst x_8.snd) == (1 : Int) && true)))) = true → True ∧ true = false) ∧ ((!(oH (fouO x_8.fst x_8.snd) == (1 : Int) && (oI (fouO x_8.fst x_8.snd) == (0 : Int) && (oK (fouO x_8.fst x_8.snd) == (1 : Int) && true)))) = false → ∃ (x : Int × Int), ((True ∧ (-40 : Int) = x.fst) ∧ (True ∧ (-22 : Int) = x.snd) ∧ True) ∧ True ∧ ((!(aqR x_13 (raLo (rE x_13.x x_13.i.toNat x_13.k.toNat x_13.h.toNat)) == x.fst && (aqR x_13 (raHi (rE x_13.x x_13.i.toNat x_13.k.toNat x_13.h.toNat)) == x.snd && true))) = true → True ∧ true = false) ∧ ((!(aqR x_13 (raLo (rE x_13.x x_13.i.toNat x_13.k.toNat x_13.h.toNat)) == x.fst && (aqR x_13 (raHi (rE x_13.x x_13.i.toNat x_13.k.toNat x_13.h.toNat)) == x.snd && true))) = false → ∃ (x : Int × Int), ((True ∧ (0 : Int) = x.fst) ∧ (True ∧ (0 : Int) = x.snd) ∧ True) ∧ True ∧ ((!(aqR x_13 (raLo (rN x_13.x x_13.i.toNat x_13.k.toNat x_13.h.toNat)) == x.fst && (aqR x_13 (raHi (rN x_13.x x_13.i.toNat x_13.k.toNat x_13.h.toNat)) == x.snd && true))) = true → True ∧ true = false) ∧ ((!(aqR x_13 (raLo (rN x_13.x x_13.i.toNat x_13.k.toNat x_13.h.toNat)) == x.fst && (aqR x_13 (raHi (rN x_13.x x_13.i.toNat x_13.k.toNat x_13.h.toNat)) == x.snd && true))) = false → ((!(oH (canO x_17) == oH (fouO x_8.fst x_8.snd) && (oI (canO x_17) == oI (fouO x_8.fst x_8.snd) && (oK (canO x_17) == oK (fouO x_8.fst x_8.snd) && true)))) = true → True ∧ true = false) ∧ ((!(oH (canO x_17) == oH (fouO x_8.fst x_8.snd) && (oI (canO x_17) == oI (fouO x_8.fst x_8.snd) && (oK (canO x_17) == oK (fouO x_8.fst x_8.snd) && true)))) = false → ((shV x_21.fst x_21.snd.fst x_21.snd.snd != (1 : Int)) = true → True ∧ true = false) ∧ ((shV x_21.fst x_21.snd.fst x_21.snd.snd != (1 : Int)) = false → ∃ (x : ToAsk), ((True ∧ x.m = (0 : Nat)) ∧ True) ∧ x.m < (100 : Nat) ∧ ∃ (x_22 : MdAsk), ((True ∧ ((((True ∧ True ∧ (toT x.m x.f).w = x_22.t.w) ∧ True ∧ (toT x.m x.f).h = x_22.t.h) ∧ True ∧ True ∧ (toT x.m x.f).n = x_22.t.n ∧ ∀ (i : Nat), i < (toT x.m x.f).n → (True ∧ (toT x.m x.f).b i 0 = x_22.t.b i 0) ∧ (toT x.m x.f).b i 1 = x_22.t.b i 1) ∧ True ∧ (toT x.m x.f).m = x_22.t.m) ∧ True ∧ (toT x.m x.f).k = x_22.t.k) ∧ (True ∧ True ∧ (2 : Nat) = x_22.p.np ∧ ∀ (i : Nat), i < (2 : Nat) → True ∧ fitP (mixC (i = (1 : Nat)) (((1 : Nat), fun (x : Nat) => CV.vs (1 : Nat) (2 : Nat) fun (i' j : Nat) => mixC (i' = (1 : Nat)) (((1 : Nat), fun (x : Nat) => CV.int IntKind.i64 (2 : Int)).snd j) (mixC (i' = (0 : Nat)) (((1 : Nat), fun (x : Nat) => CV.int IntKind.i64 (1 : Int)).snd j) ([CV.int IntKind.i64 (0 : Int)].getD j CV.any))).snd 0) (if i = (0 : Nat) then CV.vs (1 : Nat) (3 : Nat) fun (i' j : Nat) => mixC (i' = (2 : Nat)) (((1 : Nat), fun (x : Nat) => CV.int IntKind.i64 (4 : Int)).snd j) (mixC (i' = (1 : Nat)) (((1 : Nat), fun (x : Nat) => CV.int IntKind.i64 (1 : Int)).snd j) (mixC (i' = (0 : Nat)) (((1 : Nat), fun (x : Nat) => CV.int IntKind.i64 (0 : Int)).snd j) ([CV.int IntKind.i64 (0 : Int)].getD j CV.any))) else [CV.nils].getD 0 CV.any)) (CV.vs (1 : Nat) (x_22.p.len i) fun (k x : Nat) => CV.int IntKind.i64 (x_22.p.kn i k))) ∧ True) ∧ ((x_22.t.n < (4611686018427387904 : Nat) ∧ ∀ (i : Nat), i < x_22.t.n → ((-9223372036854775808 : Int) ≤ x_22.t.b i (0 : Nat) ∧ x_22.t.b i (0 : Nat) ≤ (9223372036854775807 : Int)) ∧ (-9223372036854775808 : Int) ≤ x_22.t.b i (1 : Nat) ∧ x_22.t.b i (1 : Nat) ≤ (9223372036854775807 : Int)) ∧ x_22.p.np ≤ (1073741824 : Nat) ∧ ∀ (i : Nat), i < x_22.p.np → x_22.p.len i ≤ (1073741824 : Nat) ∧ ∀ (k : Nat), k < x_22.p.len i → (-9223372036854775808 : Int) ≤ x_22.p.kn i k ∧ x_22.p.kn i k ≤ (9223372036854775807 : Int)) ∧ ∃ (x : ToAsk), ((True ∧ True ∧ (1 : Nat) = x.m ∧ ∀ (i : Nat), i < (1 : Nat) → (True ∧ (if i = (0 : Nat) then (0 : Int) else (0 : Int)) = x.f i 0) ∧ (if i = (0 : Nat) then (3 : Int) else (0 : Int)) = x.f i 1) ∧ True) ∧ x.m < (100 : Nat) ∧ ∃ (x_23 : Torn), ((True ∧ ((((True ∧ True ∧ (toT x.m x.f).w = x_23.w) ∧ True ∧ (toT x.m x.f).h = x_23.h) ∧ True ∧ True ∧ (toT x.m x.f).n = x_23.n ∧ ∀ (i : Nat), i < (toT x.m x.f).n → (True ∧ (toT x.m x.f).b i 0 = x_23.b i 0) ∧ (toT x.m x.f).b i 1 = x_23.b i 1) ∧ True ∧ (toT x.m x.f).m = x_23.m) ∧ True ∧ (toT x.m x.f).k = x_23.k) ∧ True) ∧ (x_23.n < (4611686018427387904 : Nat) ∧ ∀ (i : Nat), i < x_23.n → ((-9223372036854775808 : Int) ≤ x_23.b i (0 : Nat) ∧ x_23.b i (0 : Nat) ≤ (9223372036854775807 : Int)) ∧ (-9223372036854775808 : Int) ≤ x_23.b i (1 : Nat) ∧ x_23.b i (1 : Nat) ≤ (9223372036854775807 : Int)) ∧ ∃ (x : ToAsk), ((True ∧ x.m = (0 : Nat)) ∧ True) ∧ x.m < (100 : Nat) ∧ (lookFn fnTab (34 : Nat)).isSome = true ∧ ∃ (g : Torn), (g.n < (4611686018427387904 : Nat) ∧ ∀ (i : Nat), i < g.n → ((-9223372036854775808 : Int) ≤ g.b i (0 : Nat) ∧ g.b i (0 : Nat) ≤ (9223372036854775807 : Int)) ∧ (-9223372036854775808 : Int) ≤ g.b i (1 : Nat) ∧ g.b i (1 : Nat) ≤ (9223372036854775807 : Int)) ∧ True ∧ ((True ∧ ((((True ∧ True ∧ (toT x.m x.f).w = g.w) ∧ True ∧ (toT x.m x.f).h = g.h) ∧ True ∧ True ∧ (toT x.m x.f).n = g.n ∧ ∀ (i : Nat), i < (toT x.m x.f).n → (True ∧ (toT x.m x.f).b i 0 = g.b i 0) ∧ (toT x.m x.f).b i 1 = g.b i 1) ∧ True ∧ (toT x.m x.f).m = g.m) ∧ True ∧ (toT x.m x.f).k = g.k) ∧ True) ∧ True ∧ ∀ (d : rMd.δ), MdPost g d → ((tchkE x_22.t == (0 : Int)) = true → ((tchkE x_23 == (0 : Int)) = true → ((mendE g == (0 : Int)) = true → ((mdV x_22.t x_22.p == (42 : Int)) = true → (mdB x_22.t x_22.p = true → ((twnV x_23 == (52 : Int)) = true → True ∧ ((↑(pcsOf d).np : Int) == (2 : Int)) = true) ∧ ((twnV x_23 == (52 : Int)) = false → True ∧ true = false)) ∧ (mdB x_22.t x_22.p = false → True ∧ true = false)) ∧ ((mdV x_22.t x_22.p == (42 : Int)) = false → True ∧ true = false)) ∧ ((mendE g == (0 : Int)) = false → True ∧ true = false)) ∧ ((tchkE x_23 == (0 : Int)) = false → True ∧ true = false)) ∧ ((tchkE x_22.t == (0 : Int)) = false → True ∧ true = false))))))))))))) (by kernel_rfl) ?_
 have w0 : ∀ l, (flX l).wf := fun l => ⟨by show 3 < 4611686018427387904; decide, by show 3 < 4611686018427387904; decide, by show 2 < 4611686018427387904; decide⟩
 have w1 : ∀ l, (tr0 l).wf := fun l => ⟨by show 3 < 4611686018427387904; decide, by show 3 < 4611686018427387904; decide, by show 2 < 4611686018427387904; decide, by show 2 < 4611686018427387904; decide⟩
 repeat first | (refine ⟨(_, _), ⟨⟨trivial, rfl⟩, ⟨trivial, rfl⟩, trivial⟩, trivial, ?_⟩) | (refine And.intro (by decide) ?_)
 refine ⟨⟨fl0, tr0 [10, 12, 14], 1, 3⟩, ?_, ⟨w0 _, w1 _⟩, ?_⟩
 · repeat' first | exact trivial | exact rfl | apply And.intro | refine all3 ?_ ?_ ?_ | refine all2 ?_ ?_
 repeat first | (refine ⟨(_, _), ⟨⟨trivial, rfl⟩, ⟨trivial, rfl⟩, trivial⟩, trivial, ?_⟩) | (refine And.intro (by decide) ?_)
 refine ⟨(fl0, tr0 [20, 10, 10]), ?_, ⟨w0 _, w1 _⟩, ?_⟩
 · repeat' first | exact trivial | exact rfl | apply And.intro | refine all3 ?_ ?_ ?_ | refine all2 ?_ ?_
 repeat first | (refine ⟨(_, _), ⟨⟨trivial, rfl⟩, ⟨trivial, rfl⟩, trivial⟩, trivial, ?_⟩) | (refine And.intro (by decide) ?_)
 refine ⟨⟨fl1, 0, 1, 3⟩, ?_, w0 _, ?_⟩
 · repeat' first | exact trivial | exact rfl | apply And.intro | refine all3 ?_ ?_ ?_ | refine all2 ?_ ?_
 repeat first | (refine ⟨(_, _), ⟨⟨trivial, rfl⟩, ⟨trivial, rfl⟩, trivial⟩, trivial, ?_⟩) | (refine And.intro (by decide) ?_)
 refine ⟨fl0, ?_, w0 _, ?_⟩
 · repeat' first | exact trivial | exact rfl | apply And.intro | refine all3 ?_ ?_ ?_ | refine all2 ?_ ?_
 repeat first | (refine ⟨(_, _), ⟨⟨trivial, rfl⟩, ⟨trivial, rfl⟩, trivial⟩, trivial, ?_⟩) | (refine And.intro (by decide) ?_)
 refine ⟨(fl0, 1, 100), ?_, w0 _, ?_⟩
 · repeat' first | exact trivial | exact rfl | apply And.intro | refine all3 ?_ ?_ ?_ | refine all2 ?_ ?_
 repeat first | (refine ⟨fun h => absurd h (by decide +kernel), fun _ => ?_⟩) | (refine ⟨(_, _), ⟨⟨trivial, rfl⟩, ⟨trivial, rfl⟩, trivial⟩, trivial, ?_⟩) | (refine And.intro (by decide) ?_)
 refine ⟨⟨0, fun _ _ => 0⟩, ⟨⟨trivial, rfl⟩, trivial⟩, by decide, ⟨torn3T, pcsOf pcs3⟩, ⟨⟨trivial, ?_⟩, ⟨trivial, trivial, rfl, fun i hi => ⟨trivial, ?_⟩⟩, trivial⟩, ⟨wf3, wp3⟩, ⟨1, fun i j => if j = 0 then 0 else 3⟩, ?_, by decide, torn4T, ?_, wf4, ⟨0, fun _ _ => 0⟩, ⟨⟨trivial, rfl⟩, trivial⟩, by decide, is34, torn3T, wf3, trivial, ?_, trivial, fun d hd => ?_⟩
 · repeat' first | exact trivial | exact rfl | apply And.intro | refine all3 ?_ ?_ ?_
 · match i, hi with
   | 0, _ => exact ⟨trivial, rfl, fun i hi => match i, hi with
     | 0, _ => ⟨trivial, rfl⟩
     | 1, _ => ⟨trivial, rfl⟩
     | 2, _ => ⟨trivial, rfl⟩⟩
   | 1, _ => exact ⟨trivial, rfl, fun i hi => match i, hi with
     | 0, _ => ⟨trivial, rfl⟩
     | 1, _ => ⟨trivial, rfl⟩⟩
 · exact ⟨⟨trivial, trivial, rfl, fun i hi => match i, hi with
     | 0, _ => ⟨⟨trivial, rfl⟩, rfl⟩⟩, trivial⟩
 · repeat' first | exact trivial | exact rfl | apply And.intro | refine all4 ?_ ?_ ?_ ?_
 · repeat' first | exact trivial | exact rfl | apply And.intro | refine all3 ?_ ?_ ?_
 · have hl : ((pcsOf d).np : Int) = 2 := by
     have h := (hd.yes tc3 (by decide)).2.2
     rw [fe3] at h
     show ((d.length : Nat) : Int) = 2
     omega
   refine ⟨fun _ => ⟨fun _ => ⟨fun _ => ⟨fun _ => ⟨fun _ => ⟨fun _ => ⟨trivial, by rw [hl]; rfl⟩, fun h => absurd h ?_⟩, fun h => absurd h ?_⟩, fun h => absurd h ?_⟩, fun h => absurd h ?_⟩, fun h => absurd h ?_⟩, fun h => absurd h ?_⟩
   · show ¬ ((twnV torn4T == 52) = false); rw [tn4]; decide
   · show ¬ (mdB torn3T (pcsOf pcs3) = false); rw [mb3]; decide
   · show ¬ ((mdV torn3T (pcsOf pcs3) == 42) = false); rw [md3]; decide
   · show ¬ ((mendE torn3T == 0) = false); rw [me3]; decide
   · show ¬ ((tchkE torn4T == 0) = false); rw [tc4]; decide
   · show ¬ ((tchkE torn3T == 0) = false); rw [tE3]; decide
end Go.Proofs.YtcfmdhlohahhcaaDoor
namespace Nm
open Go Go.Sx
def isP1 (c : CV) (l : List Int) : Prop := match c with | .vs _ n get => n = l.length ∧ ∀ k, k < n → isI (.t (.c (get k 0))) (l.getD k 0) | _ => False
def isPs (v : AV) (L : List (List Int)) : Prop := match v with | .t (.c (.vs _ n get)) => n = L.length ∧ ∀ i, i < n → isP1 (get i 0) (L.getD i []) | _ => False
theorem few_wh {t : Torn} (T : TkOk t) : (t.n : Int) ≤ 2 * t.w * t.h := by
 have P := Go.Proofs.YtcfmdhlohahhcaaDoor.wh_bd T.wl T.wu T.hl T.hu
 have h := pigeon (2 * (t.w * t.h).toNat) t.n (fun i => (if t.b i 1 = t.b i 0 + t.w then 2 * t.b i 0 else 2 * t.b i 0 + 1).toNat) (fun i hi => by
   obtain ⟨⟨a1, a2⟩, _⟩ := barB_iff.1 (T.bar i hi)
   show (if t.b i 1 = t.b i 0 + t.w then 2 * t.b i 0 else 2 * t.b i 0 + 1).toNat < 2 * (t.w * t.h).toNat
   split <;> omega) fun i hi j hj e => by
   have e : (if t.b i 1 = t.b i 0 + t.w then 2 * t.b i 0 else 2 * t.b i 0 + 1).toNat = (if t.b j 1 = t.b j 0 + t.w then 2 * t.b j 0 else 2 * t.b j 0 + 1).toNat := e
   obtain ⟨⟨a1, a2⟩, _, a3⟩ := barB_iff.1 (T.bar i hi)
   obtain ⟨⟨b1, b2⟩, _, b3⟩ := barB_iff.1 (T.bar j hj)
   by_cases c : t.b i 1 = t.b i 0 + t.w <;> by_cases d : t.b j 1 = t.b j 0 + t.w
   · rw [if_pos c, if_pos d] at e; exact T.dif i hi j hj (by omega) (by omega)
   · rw [if_pos c, if_neg d] at e; omega
   · rw [if_neg c, if_pos d] at e; omega
   · rw [if_neg c, if_neg d] at e; exact T.dif i hi j hj (by omega) (by omega)
 rw [Int.mul_assoc]; omega
theorem endsL_append {v : Int} : ∀ {L M : List (List Int)}, endsL v (L ++ M) = endsL v L + endsL v M
 | [], M => by show endsL v M = 0 + endsL v M; omega
 | p :: L, M => by show one (v = hdI p) + one (v = ltI p) + endsL v (L ++ M) = one (v = hdI p) + one (v = ltI p) + endsL v L + endsL v M; rw [endsL_append]; omega
theorem endsL_le {v : Int} : ∀ {L : List (List Int)}, endsL v L ≤ 2 * L.length
 | [] => Nat.zero_le _
 | p :: L => by
   have := endsL_le (v := v) (L := L)
   have := one_le (p := v = hdI p)
   have := one_le (p := v = ltI p)
   show one (v = hdI p) + one (v = ltI p) + endsL v L ≤ 2 * (L.length + 1)
   omega
theorem pcs_inj {d a : List (List Int)} (h : (pcsOf d).np = a.length) (h2 : ∀ i, i < (pcsOf d).np → (pcsOf d).len i = (a.getD i []).length ∧ ∀ k, k < (pcsOf d).len i → (pcsOf d).kn i k = (a.getD i []).getD k 0) : a = d := by
 have h : d.length = a.length := h
 refine List.ext_getElem? fun i => ?_
 by_cases c : i < d.length
 · obtain ⟨e1, e2⟩ := h2 i c
   have e1 : (d.getD i []).length = (a.getD i []).length := e1
   have e2 : ∀ k, k < (d.getD i []).length → (d.getD i []).getD k 0 = (a.getD i []).getD k 0 := e2
   have g1 : d.getD i [] = d[i] := by rw [List.getD_eq_getElem?_getD, List.getElem?_eq_getElem c]; rfl
   have g2 : a.getD i [] = a[i] := by rw [List.getD_eq_getElem?_getD, List.getElem?_eq_getElem (by omega)]; rfl
   rw [g1, g2] at e1 e2
   rw [List.getElem?_eq_getElem c, List.getElem?_eq_getElem (by omega)]
   congr 1
   refine List.ext_getElem? fun k => ?_
   by_cases q : k < d[i].length
   · have := e2 k q
     rw [List.getD_eq_getElem?_getD, List.getD_eq_getElem?_getD, List.getElem?_eq_getElem q, List.getElem?_eq_getElem (by omega)] at this
     rw [List.getElem?_eq_getElem q, List.getElem?_eq_getElem (by omega)]
     congr 1
     exact this.symm
   · rw [List.getElem?_eq_none (by omega), List.getElem?_eq_none (by omega)]
 · rw [List.getElem?_eq_none (by omega), List.getElem?_eq_none (by omega)]
theorem hd_get {p : List Int} : p.getD 0 0 = hdI p := by cases p <;> rfl
theorem take_oneL {L : List (List Int)} {g : Nat} (h : g < L.length) : L.take (g + 1) = L.take g ++ [L.getD g []] := by
 rw [List.take_add_one, List.getD_eq_getElem?_getD, List.getElem?_eq_getElem h]; rfl
theorem tmod2 {n : Nat} : (n : Int).tmod 2 = ((n % 2 : Nat) : Int) := by rw [Int.tmod_eq_emod_of_nonneg (by omega)]; omega
end Nm
namespace Go.Proofs.YtcfmdhlohahhcaaDoor
open Go Go.Sx Nm
set_option maxRecDepth 100000
set_option maxHeartbeats 2000000
def sWhl : Sig := ⟨Torn, fun t => [tornTV t], Torn.wf, fun t => [.v (.c (.bool (tchk t)))]⟩
theorem q47 (t : Torn) (ht : t.wf) : CallQ Tryd.prog E0 47 (sWhl.arg t) (sWhl.res t) := by
 refine bare_say E0_ok [(30, sCkT), (38, sIn)] (show SigsOk Tryd.prog E0 [(30, sCkT), (38, sIn)] from ((SigsOk.nil.cons u38 fun x _ => q38 x).cons u30 q30)) [] EvensOk.nil runs { live := true } (fuel := 8) ?_
 refine of_red (q := ∃ (x : Torn), ((True ∧ ((((True ∧ True ∧ t.w = x.w) ∧ True ∧ t.h = x.h) ∧ True ∧ True ∧ t.n = x.n ∧ ∀ (i : Nat), i < t.n → (True ∧ t.b i 0 = x.b i 0) ∧ t.b i 1 = x.b i 1) ∧ True ∧ t.m = x.m) ∧ True ∧ t.k = x.k) ∧ True) ∧ (x.n < (4611686018427387904 : Nat) ∧ ∀ (i : Nat), i < x.n → ((-9223372036854775808 : Int) ≤ x.b i (0 : Nat) ∧ x.b i (0 : Nat) ≤ (9223372036854775807 : Int)) ∧ (-9223372036854775808 : Int) ≤ x.b i (1 : Nat) ∧ x.b i (1 : Nat) ≤ (9223372036854775807 : Int)) ∧ ((tchkE x == (0 : Int)) = true → ∃ (x : Int × Int × Int), ((True ∧ t.w = x.fst) ∧ (True ∧ (2 : Int) = x.snd.fst) ∧ (True ∧ (6 : Int) = x.snd.snd) ∧ True) ∧ True ∧ (within x.fst x.snd.fst x.snd.snd = true → ∃ (x : Int × Int × Int), ((True ∧ t.h = x.fst) ∧ (True ∧ (2 : Int) = x.snd.fst) ∧ (True ∧ (6 : Int) = x.snd.snd) ∧ True) ∧ True ∧ (within x.fst x.snd.fst x.snd.snd = true → inRange IntKind.i64 ((2 : Int) * t.w) ∧ inRange IntKind.i64 ((2 : Int) * t.w * t.h) ∧ True ∧ decide ((↑t.n : Int) ≤ (2 : Int) * t.w * t.h) = tchk t) ∧ (within x.fst x.snd.fst x.snd.snd = false → True ∧ tchk t = false)) ∧ (within x.fst x.snd.fst x.snd.snd = false → True ∧ tchk t = false)) ∧ ((tchkE x == (0 : Int)) = false → True ∧ tchk t = false)) (by kernel_rfl) ?_
 simp only [true_and, and_true, inR, Prod.exists, Prod.forall, and_assoc, exists_and_left, exists_eq_left', exists_eq_left, forall_eq, exists_const, forall_const, loopN, loopM, fa2, fas, fas2, dup1, dup2, dup3, dup4, ite_true, exhs, exhn, exhz, exho, exA, ex1, ex2, ex3, ex4, ex5, beqI, bneI, decide_true, Bool.true_and, decide_eq_true_eq, decide_eq_false_iff_not, ne_eq, Decidable.not_not]
 obtain ⟨hn, hb0⟩ := (show t.n < 4611686018427387904 ∧ ∀ i, i < t.n → iR (t.b i 0) ∧ iR (t.b i 1) from ht)
 have hb : ∀ i, i < t.n → -9223372036854775808 ≤ t.b i 0 ∧ t.b i 0 ≤ 9223372036854775807 ∧ -9223372036854775808 ≤ t.b i 1 ∧ t.b i 1 ≤ 9223372036854775807 := fun i hi => ⟨(hb0 i hi).1.1, (hb0 i hi).1.2, (hb0 i hi).2.1, (hb0 i hi).2.2⟩
 refine exTn ⟨hn, hb, fun e => ?_, fun e => (not_tk e).1⟩
 have hc := tk_of e
 have T := tchk_ok hc
 obtain ⟨w1, v1, _⟩ := tk0_iff.1 T.t0
 have P := wh_bd T.wl T.wu T.hl T.hu
 have F := few_wh T
 have ew := Nm.within_iff.2 w1
 have ev := Nm.within_iff.2 v1
 have em : 2 * t.w * t.h = 2 * (t.w * t.h) := Int.mul_assoc _ _ _
 rw [ew, ev]
 exact ⟨fun _ => ⟨fun _ => ⟨by omega, by omega, by omega, by omega, by rw [hc]; exact decide_eq_true F⟩, fun h => (by cases h)⟩, fun h => (by cases h)⟩
theorem exMd {t : Torn} {p : Pcs} {R : MdAsk → Prop} (h : R ⟨t, p⟩) : ∃ a : MdAsk, t.w = a.t.w ∧ t.h = a.t.h ∧ t.n = a.t.n ∧ (∀ i, i < t.n → t.b i 0 = a.t.b i 0 ∧ t.b i 1 = a.t.b i 1) ∧ t.m = a.t.m ∧ t.k = a.t.k ∧ p.np = a.p.np ∧ (∀ i, i < p.np → p.len i = a.p.len i ∧ ∀ j, j < p.len i → p.kn i j = a.p.kn i j) ∧ R a :=
 ⟨⟨t, p⟩, rfl, rfl, rfl, fun _ _ => ⟨rfl, rfl⟩, rfl, rfl, rfl, fun _ _ => ⟨rfl, fun _ _ => rfl⟩, h⟩
theorem exSn {t : Torn} {m : Int} {R : SnAsk → Prop} (h : R ⟨t, m⟩) : ∃ a : SnAsk, t.w = a.t.w ∧ t.h = a.t.h ∧ t.n = a.t.n ∧ (∀ i, i < t.n → t.b i 0 = a.t.b i 0 ∧ t.b i 1 = a.t.b i 1) ∧ t.m = a.t.m ∧ t.k = a.t.k ∧ m = a.m ∧ R a :=
 ⟨⟨t, m⟩, rfl, rfl, rfl, fun _ _ => ⟨rfl, rfl⟩, rfl, rfl, rfl, h⟩
theorem md_of {t : Torn} (hc : tchk t = true) {L : List (List Int)} (c1 : ∀ j, j < t.n → cntL t.b j L = 1) (c2 : ∀ p ∈ L, PcOk t.n t.b p) : mdB t (pcsOf L) = true ∧ mdV t (pcsOf L) = twV t (L.length : Nat) := by
 have hm : isM t (pcsOf L) = true := isM_iff.2 (by rw [lst_pcs]; exact ⟨c2, c1⟩)
 refine ⟨by unfold mdB; rw [hc, hm]; rfl, ?_⟩
 unfold mdV
 rw [if_pos hc, if_pos hm]; rfl
def aTw1 (t : Torn) : Ann := { G := List (List Int) × Nat, ok := fun st x => isPs (st.tm 5) x.1 ∧ x.2 ≤ x.1.length, dom := fun st => [osN (st.tm 13)], tm := fun _ x => [(14, .t (intC x.2))], hp := fun st x => [(osN (st.tm 13), .self, some (.row 3 1 (knN t) (fun v _ => .int .i64 (endsL (v : Nat) (x.1.take x.2)))))], mu := fun _ x => x.1.length - x.2 }
def aTw2 (t : Torn) : Ann := { G := Nat, ok := fun _ x => x ≤ knN t, dom := fun _ => [], tm := fun _ x => [(17, .t (intC (Nm.sumF x fun v => meets t.n t.b (v : Nat) % 2))), (18, .t (intC x))], hp := fun _ _ => [], mu := fun _ x => knN t - x }
def aTw3 (t : Torn) : Ann := { G := Nat × Nat, ok := fun st x => isI (st.tm 18) x.2 ∧ x.1 ≤ t.n, dom := fun _ => [], tm := fun _ x => [(19, .t (intC (cntN x.1 fun i => inc t.b i (x.2 : Nat)))), (20, .t (intC x.1))], hp := fun _ _ => [], mu := fun _ x => t.n - x.1 }
theorem q13 (t : Torn) (m : Int) (ht : t.wf) : CallQ Tryd.prog E0 13 [tornTV t, intC m] [.v (.c (.bool true))] := by
 refine CallQ.congr (E := E2) (E' := E0) E2_gl.symm (bare_say E2_ok [(47, sWhl), (48, sSpn), (32, sTwn), (21, sYes), (28, sMd), (30, sCkT), (127, sTdN), (123, sTdE), (126, sSl 8), (122, sSl 6), (125, sLg 1), (120, sLg 0), (124, sAt 1), (119, sAt 0), (121, sLong), (38, sIn)] ((show SigsOk Tryd.prog E0 [(47, sWhl), (48, sSpn), (32, sTwn), (21, sYes), (28, sMd), (30, sCkT), (127, sTdN), (123, sTdE), (126, sSl 8), (122, sSl 6), (125, sLg 1), (120, sLg 0), (124, sAt 1), (119, sAt 0), (121, sLong), (38, sIn)] from ((((((((((((((((SigsOk.nil.cons u38 fun x _ => q38 x).cons u121 fun x _ => q121 x).cons u119 fun x _ => q119 x).cons u124 fun x _ => q124 x).cons u120 fun x _ => q120 x).cons u125 fun x _ => q125 x).cons u122 fun x _ => q122 x).cons u126 fun x _ => q126 x).cons u123 q123).cons u127 q127).cons u30 q30).cons u28 q28).cons u21 fun _ _ => q21g).cons u32 q32).cons u48 q48).cons u47 q47)).congr E2_gl) [] EvensOk.nil runs { live := true, l := [(13, 13, aTw1 t), (13, 24, aTw2 t), (13, 28, aTw3 t)] } (fuel := 8) ?_)
 refine of_red (q := (lookFn fnTab (34 : Nat)).isSome = true ∧ ∃ (g : Torn), (g.n < (4611686018427387904 : Nat) ∧ ∀ (i : Nat), i < g.n → ((-9223372036854775808 : Int) ≤ g.b i (0 : Nat) ∧ g.b i (0 : Nat) ≤ (9223372036854775807 : Int)) ∧ (-9223372036854775808 : Int) ≤ g.b i (1 : Nat) ∧ g.b i (1 : Nat) ≤ (9223372036854775807 : Int)) ∧ True ∧ ((True ∧ ((((True ∧ True ∧ t.w = g.w) ∧ True ∧ t.h = g.h) ∧ True ∧ True ∧ t.n = g.n ∧ ∀ (i : Nat), i < t.n → (True ∧ t.b i 0 = g.b i 0) ∧ t.b i 1 = g.b i 1) ∧ True ∧ t.m = g.m) ∧ True ∧ t.k = g.k) ∧ True) ∧ True ∧ ∀ (d : rMd.δ), MdPost g d → ∃ (x : Torn), ((True ∧ ((((True ∧ True ∧ t.w = x.w) ∧ True ∧ t.h = x.h) ∧ True ∧ True ∧ t.n = x.n ∧ ∀ (i : Nat), i < t.n → (True ∧ t.b i 0 = x.b i 0) ∧ t.b i 1 = x.b i 1) ∧ True ∧ t.m = x.m) ∧ True ∧ t.k = x.k) ∧ True) ∧ (x.n < (4611686018427387904 : Nat) ∧ ∀ (i : Nat), i < x.n → ((-9223372036854775808 : Int) ≤ x.b i (0 : Nat) ∧ x.b i (0 : Nat) ≤ (9223372036854775807 : Int)) ∧ (-9223372036854775808 : Int) ≤ x.b i (1 : Nat) ∧ x.b i (1 : Nat) ≤ (9223372036854775807 : Int)) ∧ ∃ (x_1 : Torn), ((True ∧ ((((True ∧ True ∧ t.w = x_1.w) ∧ True ∧ t.h = x_1.h) ∧ True ∧ True ∧ t.n = x_1.n ∧ ∀ (i : Nat), i < t.n → (True ∧ t.b i 0 = x_1.b i 0) ∧ t.b i 1 = x_1.b i 1) ∧ True ∧ t.m = x_1.m) ∧ True ∧ t.k = x_1.k) ∧ True) ∧ (x_1.n < (4611686018427387904 : Nat) ∧ ∀ (i : Nat), i < x_1.n → ((-9223372036854775808 : Int) ≤ x_1.b i (0 : Nat) ∧ x_1.b i (0 : Nat) ≤ (9223372036854775807 : Int)) ∧ (-9223372036854775808 : Int) ≤ x_1.b i (1 : Nat) ∧ x_1.b i (1 : Nat) ≤ (9223372036854775807 : Int)) ∧ ((!tchk x_1) = true → ((mendE g != (0 : Int)) = true → (((↑(pcsOf d).np : Int) == (0 : Int)) = true → ((tchkE x == mendE g) = true → ((twnV x == (0 : Int)) = true → ∃ (x : Unit), True ∧ True ∧ True ∧ true = true) ∧ ((twnV x == (0 : Int)) = false → True ∧ true = false)) ∧ ((tchkE x == mendE g) = false → ((tchkE x == (0 : Int)) = true → ((mendE g == (4 : Int)) = true → ((twnV x == (0 : Int)) = true → ∃ (x : Unit), True ∧ True ∧ True ∧ true = true) ∧ ((twnV x == (0 : Int)) = false → True ∧ true = false)) ∧ ((mendE g == (4 : Int)) = false → True ∧ true = false)) ∧ ((tchkE x == (0 : Int)) = false → True ∧ true = false))) ∧ (((↑(pcsOf d).np : Int) == (0 : Int)) = false → True ∧ true = false)) ∧ ((mendE g != (0 : Int)) = false → True ∧ true = false)) ∧ ((!tchk x_1) = false → (((↑t.n : Int) == (0 : Int)) = true → ((mendE g != (0 : Int)) = true → (((↑(pcsOf d).np : Int) == (0 : Int)) = true → ((tchkE x == mendE g) = true → ((twnV x == (0 : Int)) = true → ∃ (x : Unit), True ∧ True ∧ True ∧ true = true) ∧ ((twnV x == (0 : Int)) = false → True ∧ true = false)) ∧ ((tchkE x == mendE g) = false → ((tchkE x == (0 : Int)) = true → ((mendE g == (4 : Int)) = true → ((twnV x == (0 : Int)) = true → ∃ (x : Unit), True ∧ True ∧ True ∧ true = true) ∧ ((twnV x == (0 : Int)) = false → True ∧ true = false)) ∧ ((mendE g == (4 : Int)) = false → True ∧ true = false)) ∧ ((tchkE x == (0 : Int)) = false → True ∧ true = false))) ∧ (((↑(pcsOf d).np : Int) == (0 : Int)) = false → True ∧ true = false)) ∧ ((mendE g != (0 : Int)) = false → True ∧ true = false)) ∧ (((↑t.n : Int) == (0 : Int)) = false → ∃ (x_2 : MdAsk), ((True ∧ ((((True ∧ True ∧ t.w = x_2.t.w) ∧ True ∧ t.h = x_2.t.h) ∧ True ∧ True ∧ t.n = x_2.t.n ∧ ∀ (i : Nat), i < t.n → (True ∧ t.b i 0 = x_2.t.b i 0) ∧ t.b i 1 = x_2.t.b i 1) ∧ True ∧ t.m = x_2.t.m) ∧ True ∧ t.k = x_2.t.k) ∧ (True ∧ True ∧ (pcsOf d).np = x_2.p.np ∧ ∀ (i : Nat), i < (pcsOf d).np → True ∧ True ∧ (pcsOf d).len i = x_2.p.len i ∧ ∀ (i_1 : Nat), i_1 < (pcsOf d).len i → True ∧ (pcsOf d).kn i i_1 = x_2.p.kn i i_1) ∧ True) ∧ ((x_2.t.n < (4611686018427387904 : Nat) ∧ ∀ (i : Nat), i < x_2.t.n → ((-9223372036854775808 : Int) ≤ x_2.t.b i (0 : Nat) ∧ x_2.t.b i (0 : Nat) ≤ (9223372036854775807 : Int)) ∧ (-9223372036854775808 : Int) ≤ x_2.t.b i (1 : Nat) ∧ x_2.t.b i (1 : Nat) ≤ (9223372036854775807 : Int)) ∧ x_2.p.np ≤ (1073741824 : Nat) ∧ ∀ (i : Nat), i < x_2.p.np → x_2.p.len i ≤ (1073741824 : Nat) ∧ ∀ (k : Nat), k < x_2.p.len i → (-9223372036854775808 : Int) ≤ x_2.p.kn i k ∧ x_2.p.kn i k ≤ (9223372036854775807 : Int)) ∧ ((mendE g != (0 : Int)) = true → True ∧ true = false) ∧ ((mendE g != (0 : Int)) = false → ((tchkE x != (0 : Int)) = true → True ∧ true = false) ∧ ((tchkE x != (0 : Int)) = false → ((tchkE x_2.t != (0 : Int)) = true → True ∧ true = false) ∧ ((tchkE x_2.t != (0 : Int)) = false → ((!mdB x_2.t x_2.p) = true → True ∧ true = false) ∧ ((!mdB x_2.t x_2.p) = false → ((mdV x_2.t x_2.p != twnV x) = true → True ∧ true = false) ∧ ((mdV x_2.t x_2.p != twnV x) = false → inRange IntKind.i64 (t.m * (↑t.n : Int)) ∧ inRange IntKind.i64 ((2 : Int) * t.k) ∧ inRange IntKind.i64 ((2 : Int) * t.k * (↑(pcsOf d).np : Int)) ∧ inRange IntKind.i64 (t.m * (↑t.n : Int) + (2 : Int) * t.k * (↑(pcsOf d).np : Int)) ∧ ((twnV x != t.m * (↑t.n : Int) + (2 : Int) * t.k * (↑(pcsOf d).np : Int)) = true → True ∧ true = false) ∧ ((twnV x != t.m * (↑t.n : Int) + (2 : Int) * t.k * (↑(pcsOf d).np : Int)) = false → ∃ (x_3 : SnAsk), ((True ∧ ((((True ∧ True ∧ t.w = x_3.t.w) ∧ True ∧ t.h = x_3.t.h) ∧ True ∧ True ∧ t.n = x_3.t.n ∧ ∀ (i : Nat), i < t.n → (True ∧ t.b i 0 = x_3.t.b i 0) ∧ t.b i 1 = x_3.t.b i 1) ∧ True ∧ t.m = x_3.t.m) ∧ True ∧ t.k = x_3.t.k) ∧ (True ∧ m = x_3.m) ∧ True) ∧ (TkOk x_3.t ∧ (0 : Nat) < x_3.t.n) ∧ ∃ (x_4 : MdAsk), ((True ∧ ((((True ∧ True ∧ t.w = x_4.t.w) ∧ True ∧ t.h = x_4.t.h) ∧ True ∧ True ∧ t.n = x_4.t.n ∧ ∀ (i : Nat), i < t.n → (True ∧ t.b i 0 = x_4.t.b i 0) ∧ t.b i 1 = x_4.t.b i 1) ∧ True ∧ t.m = x_4.t.m) ∧ True ∧ t.k = x_4.t.k) ∧ (True ∧ True ∧ (pcsOf (spunF x_3.t.n x_3.t.b (snN x_3.t x_3.m))).np = x_4.p.np ∧ ∀ (i : Nat), i < (pcsOf (spunF x_3.t.n x_3.t.b (snN x_3.t x_3.m))).np → True ∧ True ∧ (pcsOf (spunF x_3.t.n x_3.t.b (snN x_3.t x_3.m))).len i = x_4.p.len i ∧ ∀ (i_1 : Nat), i_1 < (pcsOf (spunF x_3.t.n x_3.t.b (snN x_3.t x_3.m))).len i → True ∧ (pcsOf (spunF x_3.t.n x_3.t.b (snN x_3.t x_3.m))).kn i i_1 = x_4.p.kn i i_1) ∧ True) ∧ ((x_4.t.n < (4611686018427387904 : Nat) ∧ ∀ (i : Nat), i < x_4.t.n → ((-9223372036854775808 : Int) ≤ x_4.t.b i (0 : Nat) ∧ x_4.t.b i (0 : Nat) ≤ (9223372036854775807 : Int)) ∧ (-9223372036854775808 : Int) ≤ x_4.t.b i (1 : Nat) ∧ x_4.t.b i (1 : Nat) ≤ (9223372036854775807 : Int)) ∧ x_4.p.np ≤ (1073741824 : Nat) ∧ ∀ (i : Nat), i < x_4.p.np → x_4.p.len i ≤ (1073741824 : Nat) ∧ ∀ (k : Nat), k < x_4.p.len i → (-9223372036854775808 : Int) ≤ x_4.p.kn i k ∧ x_4.p.kn i k ≤ (9223372036854775807 : Int)) ∧ ((tchkE x_4.t != (0 : Int)) = true → True ∧ true = false) ∧ ((tchkE x_4.t != (0 : Int)) = false → ((!mdB x_4.t x_4.p) = true → True ∧ true = false) ∧ ((!mdB x_4.t x_4.p) = false → (decide (mdV x_4.t x_4.p < twnV x) = true → True ∧ true = false) ∧ (decide (mdV x_4.t x_4.p < twnV x) = false → inRange IntKind.i64 (t.w * t.h) ∧ (0 : Int) ≤ t.w * t.h ∧ t.w * t.h = t.w * t.h ∧ (↑(8 : Nat) : Int) * (t.w * t.h) ≤ (140737488355328 : Int) ∧ t.w * t.h < (4611686018427387904 : Int) ∧ (∃ (g : List (List Int) × Nat), (((pcsOf d).np = g.fst.length ∧ ∀ (i : Nat), i < (pcsOf d).np → (pcsOf d).len i = (g.fst.getD i []).length ∧ ∀ (k : Nat), k < (pcsOf d).len i → (pcsOf d).kn i k = (g.fst.getD i []).getD k (0 : Int)) ∧ g.snd ≤ g.fst.length) ∧ True ∧ ((True ∧ (0 : Int) = (↑g.snd : Int)) ∧ True) ∧ (True ∧ True ∧ (t.w * t.h).toNat = knN t ∧ ∀ (i : Nat), i < (t.w * t.h).toNat → True ∧ (0 : Int) = (↑(endsL (↑i : Int) (List.take g.snd g.fst)) : Int)) ∧ True) ∧ ∀ (g : List (List Int) × Nat), ((pcsOf d).np = g.fst.length ∧ ∀ (i : Nat), i < (pcsOf d).np → (pcsOf d).len i = (g.fst.getD i []).length ∧ ∀ (k : Nat), k < (pcsOf d).len i → (pcsOf d).kn i k = (g.fst.getD i []).getD k (0 : Int)) ∧ g.snd ≤ g.fst.length → (decide ((↑g.snd : Int) < (↑(pcsOf d).np : Int)) = true → (0 : Int) ≤ (↑g.snd : Int) ∧ (↑g.snd : Int) < (↑(pcsOf d).np : Int) ∧ (decide ((↑((pcsOf d).len g.snd) : Int) < (2 : Int)) = true → True ∧ true = false) ∧ (decide ((↑((pcsOf d).len g.snd) : Int) < (2 : Int)) = false → (0 : Int) ≤ (↑g.snd : Int) ∧ (↑g.snd : Int) < (↑(pcsOf d).np : Int) ∧ (0 : Int) ≤ (0 : Int) ∧ (0 : Int) < (↑((pcsOf d).len g.snd) : Int) ∧ (0 : Int) ≤ (↑g.snd : Int) ∧ (↑g.snd : Int) < (↑(pcsOf d).np : Int) ∧ (0 : Int) ≤ (↑g.snd : Int) ∧ (↑g.snd : Int) < (↑(pcsOf d).np : Int) ∧ inRange IntKind.i64 ((↑((pcsOf d).len g.snd) : Int) - (1 : Int)) ∧ (0 : Int) ≤ (↑((pcsOf d).len g.snd) : Int) - (1 : Int) ∧ (↑((pcsOf d).len g.snd) : Int) - (1 : Int) < (↑((pcsOf d).len g.snd) : Int) ∧ inRange IntKind.i64 ((↑(t.w * t.h).toNat : Int) - (1 : Int)) ∧ ∃ (x : Int × Int × Int), ((True ∧ (pcsOf d).kn g.snd (0 : Nat) = x.fst) ∧ (True ∧ (0 : Int) = x.snd.fst) ∧ (True ∧ (↑(t.w * t.h).toNat : Int) - (1 : Int) = x.snd.snd) ∧ True) ∧ True ∧ ((!within x.fst x.snd.fst x.snd.snd) = true → True ∧ true = false) ∧ ((!within x.fst x.snd.fst x.snd.snd) = false → inRange IntKind.i64 ((↑(t.w * t.h).toNat : Int) - (1 : Int)) ∧ ∃ (x : Int × Int × Int), ((True ∧ (pcsOf d).kn g.snd ((↑((pcsOf d).len g.snd) : Int) - (1 : Int)).toNat = x.fst) ∧ (True ∧ (0 : Int) = x.snd.fst) ∧ (True ∧ (↑(t.w * t.h).toNat : Int) - (1 : Int) = x.snd.snd) ∧ True) ∧ True ∧ ((!within x.fst x.snd.fst x.snd.snd) = true → True ∧ true = false) ∧ ((!within x.fst x.snd.fst x.snd.snd) = false → (0 : Int) ≤ (pcsOf d).kn g.snd (0 : Nat) ∧ (pcsOf d).kn g.snd (0 : Nat) < (↑(t.w * t.h).toNat : Int) ∧ inRange IntKind.i64 ((↑(endsL (↑((pcsOf d).kn g.snd (0 : Nat)).toNat : Int) (List.take g.snd g.fst)) : Int) + (1 : Int)) ∧ (0 : Int) ≤ (pcsOf d).kn g.snd (0 : Nat) ∧ (pcsOf d).kn g.snd (0 : Nat) < (↑(t.w * t.h).toNat : Int) ∧ (0 : Int) ≤ (pcsOf d).kn g.snd ((↑((pcsOf d).len g.snd) : Int) - (1 : Int)).toNat ∧ (pcsOf d).kn g.snd ((↑((pcsOf d).len g.snd) : Int) - (1 : Int)).toNat < (↑(t.w * t.h).toNat : Int) ∧ inRange IntKind.i64 ((if ((pcsOf d).kn g.snd ((↑((pcsOf d).len g.snd) : Int) - (1 : Int)).toNat).toNat = ((pcsOf d).kn g.snd (0 : Nat)).toNat then (↑(endsL (↑((pcsOf d).kn g.snd (0 : Nat)).toNat : Int) (List.take g.snd g.fst)) : Int) + (1 : Int) else (↑(endsL (↑((pcsOf d).kn g.snd ((↑((pcsOf d).len g.snd) : Int) - (1 : Int)).toNat).toNat : Int) (List.take g.snd g.fst)) : Int)) + (1 : Int)) ∧ (0 : Int) ≤ (pcsOf d).kn g.snd ((↑((pcsOf d).len g.snd) : Int) - (1 : Int)).toNat ∧ (pcsOf d).kn g.snd ((↑((pcsOf d).len g.snd) : Int) - (1 : Int)).toNat < (↑(t.w * t.h).toNat : Int) ∧ inRange IntKind.i64 ((↑g.snd : Int) + (1 : Int)) ∧ ∃ (g' : List (List Int) × Nat), (((pcsOf d).np = g'.fst.length ∧ ∀ (i : Nat), i < (pcsOf d).np → (pcsOf d).len i = (g'.fst.getD i []).length ∧ ∀ (k : Nat), k < (pcsOf d).len i → (pcsOf d).kn i k = (g'.fst.getD i []).getD k (0 : Int)) ∧ g'.snd ≤ g'.fst.length) ∧ g'.fst.length - g'.snd < g.fst.length - g.snd ∧ True ∧ ((True ∧ (↑g.snd : Int) + (1 : Int) = (↑g'.snd : Int)) ∧ True) ∧ (True ∧ True ∧ knN t = knN t ∧ ∀ (i : Nat), i < knN t → True ∧ (if i = ((pcsOf d).kn g.snd ((↑((pcsOf d).len g.snd) : Int) - (1 : Int)).toNat).toNat then (if ((pcsOf d).kn g.snd ((↑((pcsOf d).len g.snd) : Int) - (1 : Int)).toNat).toNat = ((pcsOf d).kn g.snd (0 : Nat)).toNat then (↑(endsL (↑((pcsOf d).kn g.snd (0 : Nat)).toNat : Int) (List.take g.snd g.fst)) : Int) + (1 : Int) else (↑(endsL (↑((pcsOf d).kn g.snd ((↑((pcsOf d).len g.snd) : Int) - (1 : Int)).toNat).toNat : Int) (List.take g.snd g.fst)) : Int)) + (1 : Int) else if i = ((pcsOf d).kn g.snd (0 : Nat)).toNat then (↑(endsL (↑((pcsOf d).kn g.snd (0 : Nat)).toNat : Int) (List.take g.snd g.fst)) : Int) + (1 : Int) else (↑(endsL (↑i : Int) (List.take g.snd g.fst)) : Int)) = (↑(endsL (↑i : Int) (List.take g'.snd g'.fst)) : Int)) ∧ True)))) ∧ (decide ((↑g.snd : Int) < (↑(pcsOf d).np : Int)) = false → (∃ (g : Nat), g ≤ knN t ∧ True ∧ ((True ∧ (0 : Int) = (↑(Nm.sumF g fun (v : Nat) => meets t.n t.b (↑v : Int) % (2 : Nat)) : Int)) ∧ (True ∧ (0 : Int) = (↑g : Int)) ∧ True) ∧ True) ∧ ∀ (g_1 : Nat), g_1 ≤ knN t → (decide ((↑g_1 : Int) < (↑(t.w * t.h).toNat : Int)) = true → (∃ (g : Nat × Nat), ((↑g_1 : Int) = (↑g.snd : Int) ∧ g.fst ≤ t.n) ∧ True ∧ ((True ∧ (0 : Int) = (↑(cntN g.fst fun (i : Nat) => inc t.b i (↑g.snd : Int)) : Int)) ∧ (True ∧ (0 : Int) = (↑g.fst : Int)) ∧ True) ∧ True) ∧ ∀ (g_2 : Nat × Nat), (↑g_1 : Int) = (↑g_2.snd : Int) ∧ g_2.fst ≤ t.n → (decide ((↑g_2.fst : Int) < (↑t.n : Int)) = true → (0 : Int) ≤ (↑g_2.fst : Int) ∧ (↑g_2.fst : Int) < (↑t.n : Int) ∧ ((t.b g_2.fst (0 : Nat) == (↑g_1 : Int)) = true → inRange IntKind.i64 ((↑(cntN g_2.fst fun (i : Nat) => inc t.b i (↑g_2.snd : Int)) : Int) + (1 : Int)) ∧ inRange IntKind.i64 ((↑g_2.fst : Int) + (1 : Int)) ∧ ∃ (g' : Nat × Nat), ((↑g_1 : Int) = (↑g'.snd : Int) ∧ g'.fst ≤ t.n) ∧ t.n - g'.fst < t.n - g_2.fst ∧ True ∧ ((True ∧ (↑(cntN g_2.fst fun (i : Nat) => inc t.b i (↑g_2.snd : Int)) : Int) + (1 : Int) = (↑(cntN g'.fst fun (i : Nat) => inc t.b i (↑g'.snd : Int)) : Int)) ∧ (True ∧ (↑g_2.fst : Int) + (1 : Int) = (↑g'.fst : Int)) ∧ True) ∧ True) ∧ ((t.b g_2.fst (0 : Nat) == (↑g_1 : Int)) = false → (0 : Int) ≤ (↑g_2.fst : Int) ∧ (↑g_2.fst : Int) < (↑t.n : Int) ∧ ((t.b g_2.fst ((0 : Nat) + (nat_lit 0 + (1 : Nat))) == (↑g_1 : Int)) = true → inRange IntKind.i64 ((↑(cntN g_2.fst fun (i : Nat) => inc t.b i (↑g_2.snd : Int)) : Int) + (1 : Int)) ∧ inRange IntKind.i64 ((↑g_2.fst : Int) + (1 : Int)) ∧ ∃ (g' : Nat × Nat), ((↑g_1 : Int) = (↑g'.snd : Int) ∧ g'.fst ≤ t.n) ∧ t.n - g'.fst < t.n - g_2.fst ∧ True ∧ ((True ∧ (↑(cntN g_2.fst fun (i : Nat) => inc t.b i (↑g_2.snd : Int)) : Int) + (1 : Int) = (↑(cntN g'.fst fun (i : Nat) => inc t.b i (↑g'.snd : Int)) : Int)) ∧ (True ∧ (↑g_2.fst : Int) + (1 : Int) = (↑g'.fst : Int)) ∧ True) ∧ True) ∧ ((t.b g_2.fst ((0 : Nat) + (nat_lit 0 + (1 : Nat))) == (↑g_1 : Int)) = false → inRange IntKind.i64 ((↑g_2.fst : Int) + (1 : Int)) ∧ ∃ (g' : Nat × Nat), ((↑g_1 : Int) = (↑g'.snd : Int) ∧ g'.fst ≤ t.n) ∧ t.n - g'.fst < t.n - g_2.fst ∧ True ∧ ((True ∧ (↑(cntN g_2.fst fun (i : Nat) => inc t.b i (↑g_2.snd : Int)) : Int) = (↑(cntN g'.fst fun (i : Nat) => inc t.b i (↑g'.snd : Int)) : Int)) ∧ (True ∧ (↑g_2.fst : Int) + (1 : Int) = (↑g'.fst : Int)) ∧ True) ∧ True))) ∧ (decide ((↑g_2.fst : Int) < (↑t.n : Int)) = false → (2 : Int) ≠ (0 : Int) ∧ (0 : Int) ≤ (↑g_1 : Int) ∧ (↑g_1 : Int) < (↑(t.w * t.h).toNat : Int) ∧ (2 : Int) ≠ (0 : Int) ∧ (((↑(cntN g_2.fst fun (i : Nat) => inc t.b i (↑g_2.snd : Int)) : Int).tmod (2 : Int) != (↑(endsL (↑g_1 : Int) (List.take g.snd g.fst)) : Int).tmod (2 : Int)) = true → True ∧ true = false) ∧ (((↑(cntN g_2.fst fun (i : Nat) => inc t.b i (↑g_2.snd : Int)) : Int).tmod (2 : Int) != (↑(endsL (↑g_1 : Int) (List.take g.snd g.fst)) : Int).tmod (2 : Int)) = false → (2 : Int) ≠ (0 : Int) ∧ inRange IntKind.i64 ((↑(Nm.sumF g_1 fun (v : Nat) => meets t.n t.b (↑v : Int) % (2 : Nat)) : Int) + (↑(cntN g_2.fst fun (i : Nat) => inc t.b i (↑g_2.snd : Int)) : Int).tmod (2 : Int)) ∧ inRange IntKind.i64 ((↑g_1 : Int) + (1 : Int)) ∧ ∃ (g' : Nat), g' ≤ knN t ∧ knN t - g' < knN t - g_1 ∧ True ∧ ((True ∧ (↑(Nm.sumF g_1 fun (v : Nat) => meets t.n t.b (↑v : Int) % (2 : Nat)) : Int) + (↑(cntN g_2.fst fun (i : Nat) => inc t.b i (↑g_2.snd : Int)) : Int).tmod (2 : Int) = (↑(Nm.sumF g' fun (v : Nat) => meets t.n t.b (↑v : Int) % (2 : Nat)) : Int)) ∧ (True ∧ (↑g_1 : Int) + (1 : Int) = (↑g' : Int)) ∧ True) ∧ True))) ∧ (decide ((↑g_1 : Int) < (↑(t.w * t.h).toNat : Int)) = false → inRange IntKind.i64 ((2 : Int) * (↑(pcsOf d).np : Int)) ∧ (decide ((↑(Nm.sumF g_1 fun (v : Nat) => meets t.n t.b (↑v : Int) % (2 : Nat)) : Int) ≤ (2 : Int) * (↑(pcsOf d).np : Int)) = true → ∃ (x : Unit), True ∧ True ∧ True ∧ true = true) ∧ (decide ((↑(Nm.sumF g_1 fun (v : Nat) => meets t.n t.b (↑v : Int) % (2 : Nat)) : Int) ≤ (2 : Int) * (↑(pcsOf d).np : Int)) = false → True ∧ true = false))))))))))))))) (by kernel_rfl) ?_
 simp only [true_and, and_true, inR, Prod.exists, Prod.forall, and_assoc, exists_and_left, exists_eq_left', exists_eq_left, forall_eq, exists_const, forall_const, loopN, loopM, fa2, fas, fas2, dup1, dup2, dup3, dup4, ite_true, exhs, exhn, exhz, exho, exA, ex1, ex2, ex3, ex4, ex5, beqI, bneI, decide_true, Bool.true_and, decide_eq_true_eq, decide_eq_false_iff_not, ne_eq, Decidable.not_not]
 obtain ⟨hn, hb0⟩ := (show t.n < 4611686018427387904 ∧ ∀ i, i < t.n → iR (t.b i 0) ∧ iR (t.b i 1) from ht)
 have hb : ∀ i, i < t.n → -9223372036854775808 ≤ t.b i 0 ∧ t.b i 0 ≤ 9223372036854775807 ∧ -9223372036854775808 ≤ t.b i 1 ∧ t.b i 1 ≤ 9223372036854775807 := fun i hi => ⟨(hb0 i hi).1.1, (hb0 i hi).1.2, (hb0 i hi).2.1, (hb0 i hi).2.2⟩
 refine ⟨is34, t, hn, hb, rfl, rfl, rfl, fun _ _ => ⟨rfl, rfl⟩, rfl, rfl, fun d hd => exTn ⟨hn, hb, exTn ⟨hn, hb, fun e => ?_, fun e => ⟨fun e0 => ?_, fun e0 => ?_⟩⟩⟩⟩
 · rw [Bool.not_eq_true'] at e
   have h0 := hd.no (by rw [e]; exact fun h => (by cases h.1))
   have hm : mendE t = 23 := by unfold mendE; rw [if_neg (by rw [e]; decide)]
   have ht2 : twnV t = 0 := by unfold twnV; rw [if_neg (by rw [e]; decide)]
   have hk : tchkE t = 23 := by unfold tchkE; rw [if_neg (by rw [e]; decide)]
   rw [h0, hm, ht2, hk]
   exact ⟨fun _ => ⟨fun _ => ⟨fun _ => ⟨fun _ => trivial, fun h => absurd rfl h⟩, fun h => absurd rfl h⟩, fun h => absurd rfl h⟩, fun h => (by cases h)⟩
 · rw [Bool.not_eq_false'] at e
   have n0 : t.n = 0 := by omega
   have h0 := hd.no (by rw [n0]; exact fun h => absurd h.2 (Nat.lt_irrefl 0))
   have hm : mendE t = 4 := by unfold mendE; rw [if_pos e, if_pos n0]
   have hk : tchkE t = 0 := by unfold tchkE; rw [if_pos e]
   rw [h0, hm, twn0 e n0, hk]
   exact ⟨fun _ => ⟨fun _ => ⟨fun h => (by cases h), fun _ => ⟨fun _ => ⟨fun _ => ⟨fun _ => trivial, fun h => absurd rfl h⟩, fun h => absurd rfl h⟩, fun h => absurd rfl h⟩⟩, fun h => absurd rfl h⟩, fun h => (by cases h)⟩
 rw [Bool.not_eq_false'] at e
 have T := tchk_ok e
 have B := BrOk.of T
 have n0 : 0 < t.n := by omega
 have h72 := T.few
 obtain ⟨c1, c2, c3⟩ := hd.yes e n0
 have wf := pcs_wf B h72 c1 c2
 have hm : mendE t = 0 := by unfold mendE; rw [if_pos e, if_neg (by omega)]
 have hk : tchkE t = 0 := by unfold tchkE; rw [if_pos e]
 obtain ⟨m1, m2⟩ := md_of e c1 c2
 have c3' : d.length = fewT t := c3
 have ht2 : twnV t = twV t (fewT t : Nat) := by unfold twnV; rw [if_pos e]
 have c4 := (mend_bd B c1 c2).1
 have W := tw_bd T.t0 h72 (show d.length ≤ 1000 by omega)
 have enp : (pcsOf d).np = d.length := rfl
 have etw : twnV t = t.m * (t.n : Int) + 2 * t.k * (d.length : Nat) := by rw [ht2, ← c3']; rfl
 have hmod0 := Int.emod_nonneg m (show (t.n : Int) ≠ 0 by omega)
 have hmod1 := Int.emod_lt_of_pos m (show (0 : Int) < t.n by omega)
 obtain ⟨s1, s2⟩ := spun_mends B n0 (show snN t m < t.n by unfold snN; omega)
 have wf2 := pcs_wf B h72 s1 s2
 obtain ⟨m3, m4⟩ := md_of e s1 s2
 have sle := few_le B s1 s2
 refine exMd ⟨hn, hb, wf.1, wf.2, fun h => absurd hm h, fun _ => ⟨fun h => absurd hk h, fun _ => ⟨fun h => absurd hk h, fun _ => ⟨fun h => ?_, fun _ => ⟨fun h => ?_, fun _ => ⟨by omega, by omega, by omega, by omega, by rw [enp]; omega, by rw [enp]; omega, by rw [enp]; omega, by rw [enp]; omega, fun h => ?_, fun _ => exSn ⟨T, n0, exMd ⟨hn, hb, wf2.1, wf2.2, fun h => absurd hk h, fun _ => ⟨fun h => ?_, fun _ => ⟨fun h => ?_, fun _ => ?_⟩⟩⟩⟩⟩⟩⟩⟩⟩⟩
 · have h : (!mdB t (pcsOf d)) = true := h
   rw [m1] at h; cases h
 · refine absurd ?_ h
   show mdV t (pcsOf d) = twnV t
   rw [m2, ht2, c3']
 · exact absurd etw h
 · have h : (!mdB t (pcsOf (spunF t.n t.b (snN t m)))) = true := h
   rw [m3] at h; cases h
 · have h : mdV t (pcsOf (spunF t.n t.b (snN t m))) < twnV t := h
   rw [m4, etw] at h
   unfold twV at h
   have : 2 * t.k * (d.length : Int) ≤ 2 * t.k * ((spunF t.n t.b (snN t m)).length : Int) := Int.mul_le_mul_of_nonneg_left (by
     have : fewT t ≤ (spunF t.n t.b (snN t m)).length := sle
     omega) (by omega)
   omega
 have P := wh_bd T.wl T.wu T.hl T.hu
 have hNN : (t.w * t.h).toNat = knN t := rfl
 have hN : ((knN t : Nat) : Int) = t.w * t.h := by unfold knN; omega
 have e8 : (↑8 : Int) = 8 := rfl
 have N36 : knN t ≤ 36 := B.N36
 rw [hNN]
 refine ⟨by omega, by omega, by omega, by omega, by omega, ⟨d, rfl, fun _ _ => ⟨rfl, fun _ _ => rfl⟩, 0, Nat.zero_le _, rfl, rfl, fun i _ => rfl⟩, fun a b hA => ?_⟩
 obtain ⟨a1, a2, hle⟩ := hA
 obtain rfl := pcs_inj a1 a2
 rw [enp]
 refine ⟨fun hlt => ?_, fun hge => ?_⟩
 · have hlt : b < a.length := by omega
   have hmem : a.getD b [] ∈ a := by rw [List.getD_eq_getElem?_getD, List.getElem?_eq_getElem hlt]; exact List.getElem_mem hlt
   have el : (pcsOf a).len b = (a.getD b []).length := rfl
   have ek : ∀ k, (pcsOf a).kn b k = (a.getD b []).getD k 0 := fun _ => rfl
   have etk := take_oneL hlt
   rw [el, ek, ek]
   generalize a.getD b [] = q at hmem etk
   have hq := c2 q hmem
   have ne : q ≠ [] := fun h => by have := hq.1; rw [h] at this; exact absurd this (by decide)
   have rh : 0 ≤ hdI q ∧ hdI q < (knN t : Nat) := knot_rng B hq.1 hq.2 _ (hdI_mem ne)
   have rl : 0 ≤ ltI q ∧ ltI q < (knN t : Nat) := knot_rng B hq.1 hq.2 _ (ltI_mem ne)
   have q2 := hq.1
   have ql := ((mend_bd B c1 c2).2 q hmem).1
   have eT : ((q.length : Int) - 1).toNat = q.length - 1 := by omega
   have egl : q.getD (q.length - 1) 0 = ltI q := gI_last ne
   have wh : within (hdI q) 0 ((knN t : Nat) - 1) = true := Nm.within_iff.2 ⟨by omega, by omega⟩
   have wl : within (ltI q) 0 ((knN t : Nat) - 1) = true := Nm.within_iff.2 ⟨by omega, by omega⟩
   rw [eT, egl, hd_get, wh, wl]
   have le1 : ∀ v : Int, endsL v (a.take b) ≤ 144 := fun v => by
     have h1 := endsL_le (v := v) (L := a.take b)
     rw [List.length_take] at h1; omega
   have ch : (((hdI q).toNat : Nat) : Int) = hdI q := by omega
   have cl : (((ltI q).toNat : Nat) : Int) = ltI q := by omega
   rw [ch, cl]
   have l1 := le1 (hdI q)
   have l2 := le1 (ltI q)
   have lif : ∀ c : Prop, [Decidable c] → 0 ≤ (if c then ((endsL (hdI q) (a.take b) : Nat) : Int) + 1 else ((endsL (ltI q) (a.take b) : Nat) : Int)) ∧ (if c then ((endsL (hdI q) (a.take b) : Nat) : Int) + 1 else ((endsL (ltI q) (a.take b) : Nat) : Int)) ≤ 145 := fun c _ => by split <;> omega
   have lf := lif ((ltI q).toNat = (hdI q).toNat)
   refine ⟨by omega, by omega, fun h => absurd h (by omega), fun _ => ⟨by omega, by omega, by omega, by omega, by omega, by omega, by omega, by omega, by omega, by omega, by omega, by omega, by omega, by omega, fun h => (by cases h), fun _ => ⟨by omega, by omega, fun h => (by cases h), fun _ => ⟨by omega, by omega, by omega, by omega, by omega, by omega, by omega, by omega, by omega, by omega, by omega, by omega, by omega, by omega, a, rfl, fun _ _ => ⟨rfl, fun _ _ => rfl⟩, b + 1, by omega, by omega, by omega, fun i hi => ?_⟩⟩⟩⟩
   rw [etk, endsL_append]
   show _ = ((endsL (i : Int) (a.take b) + (Nm.one ((i : Int) = hdI q) + Nm.one ((i : Int) = ltI q) + 0) : Nat) : Int)
   unfold Nm.one
   by_cases d1 : i = (ltI q).toNat
   · have i1 : (i : Int) = ltI q := by omega
     rw [if_pos d1, if_pos (c := (i : Int) = ltI q) i1]
     by_cases d2 : (ltI q).toNat = (hdI q).toNat
     · have i2 : (i : Int) = hdI q := by omega
       rw [if_pos d2, if_pos (c := (i : Int) = hdI q) i2, i2]; omega
     · have i2 : ¬ (i : Int) = hdI q := by omega
       rw [if_neg d2, if_neg (c := (i : Int) = hdI q) i2, i1]; omega
   · have i1 : ¬ (i : Int) = ltI q := by omega
     rw [if_neg d1, if_neg (c := (i : Int) = ltI q) i1]
     by_cases d2 : i = (hdI q).toNat
     · have i2 : (i : Int) = hdI q := by omega
       rw [if_pos d2, if_pos (c := (i : Int) = hdI q) i2, i2]; omega
     · have i2 : ¬ (i : Int) = hdI q := by omega
       rw [if_neg d2, if_neg (c := (i : Int) = hdI q) i2]; omega
 · have eb : a.take b = a := List.take_of_length_le (by omega)
   rw [eb]
   have osum : ∀ g, Nm.sumF g (fun v => meets t.n t.b (v : Int) % 2) ≤ g * 1 := fun g => sumF_bd (fun v => by omega)
   refine ⟨Nat.zero_le _, rfl, fun g hg => ⟨fun hlt => ⟨Nat.zero_le _, rfl, fun i b' hA => ?_⟩, fun hge2 => ?_⟩⟩
   · obtain ⟨eg, hi⟩ := hA
     obtain rfl : b' = g := by omega
     have og := osum b'
     have cm : cntN i (fun j => inc t.b j (b' : Int)) ≤ i := cntN_max
     have cS : cntN (i + 1) (fun j => inc t.b j (b' : Int)) = cntN i (fun j => inc t.b j (b' : Int)) + if inc t.b i (b' : Int) = true then 1 else 0 := rfl
     have e1 : t.b i (0 + (0 + 1)) = t.b i 1 := rfl
     rw [cS, e1]
     refine ⟨fun hlt2 => ⟨by omega, by omega, fun h0 => ?_, fun h0 => ⟨by omega, by omega, fun h1 => ?_, fun h1 => ?_⟩⟩, fun hge2 => ?_⟩
     · rw [if_pos (inc_iff.2 (.inl h0))]; exact ⟨by omega, by omega, by omega, by omega, by omega, by omega, by omega⟩
     · rw [if_pos (inc_iff.2 (.inr h1))]; exact ⟨by omega, by omega, by omega, by omega, by omega, by omega, by omega⟩
     · rw [if_neg (by rw [inc_iff]; exact fun h => h.elim h0 h1)]; exact ⟨by omega, by omega, by omega, by omega, by omega⟩
     · obtain rfl : i = t.n := by omega
       have eM : cntN t.n (fun j => inc t.b j (b' : Int)) = meets t.n t.b (b' : Int) := rfl
       have ep := ends_par B c1 c2 (b' : Int)
       have eS : Nm.sumF (b' + 1) (fun v => meets t.n t.b (v : Int) % 2) = Nm.sumF b' (fun v => meets t.n t.b (v : Int) % 2) + meets t.n t.b (b' : Int) % 2 := rfl
       rw [eM, tmod2, tmod2, ep, eS]
       exact ⟨by omega, by omega, by omega, by omega, fun h => absurd rfl h, fun _ => ⟨by omega, by omega, by omega, by omega, by omega, by omega, by omega, by omega⟩⟩
   · obtain rfl : g = knN t := by omega
     have h1 := sumF_le (f := fun v => meets t.n t.b (v : Int) % 2) (g := fun v => endsL (v : Int) a) (n := knN t) fun v _ => by
       have := ends_par B c1 c2 (v : Int)
       show meets t.n t.b (v : Int) % 2 ≤ endsL (v : Int) a
       omega
     have h2 := ends_sum B c2
     have h2 : Nm.sumF (knN t) (fun v => endsL (v : Int) a) = 2 * a.length := h2
     exact ⟨by omega, by omega, fun _ => trivial, fun h => absurd (by omega) h⟩
end Go.Proofs.YtcfmdhlohahhcaaDoor
