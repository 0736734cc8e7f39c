/- Texts for the law of the last part, part 11. -/
import Derived.Test.YtcfmdhlohahhcaaDoorTwineP10
set_option linter.unusedSimpArgs false
set_option linter.unusedVariables false
namespace Go.Proofs.YtcfmdhlohahhcaaDoor
open Go Go.Sx Nm
set_option maxRecDepth 100000
theorem q22 (a : sApart.α) (ha : sApart.pre a) : CallQ Tryd.prog E0 22 (sApart.arg a) (sApart.res a) := by
 obtain ⟨x, i, k, h⟩ := a
 refine bare_say E0_ok [(67, sOpen), (68, sAp), (56, sLie), (55, sNet), (54, sIn)] (show SigsOk Tryd.prog E0 [(67, sOpen), (68, sAp), (56, sLie), (55, sNet), (54, sIn)] from (((((SigsOk.nil.cons u54 fun x _ => q54 x).cons u55 q55).cons u56 fun x _ => q56 x).cons u68 q68).cons u67 q67)) [] EvensOk.nil runs { o := [(22, 3, oT [(8, [3]), (9, [4])]), (22, 6, oT [(8, [2]), (9, [3])]), (22, 8, oT [(8, [10]), (9, [11])])] } (fuel := 5) ?_
 refine of_red (q := ∃ (x_1 : Fleet), ((True ∧ flq x x_1) ∧ True) ∧ (x_1.hE < (4611686018427387904 : Nat) ∧ x_1.hN < (4611686018427387904 : Nat) ∧ x_1.k < (4611686018427387904 : Nat)) ∧ ((chkE x_1 != (0 : Int)) = true → (True ∧ (True ∧ True ∧ (0 : Int) = aqR { x := x, i := i, k := k, h := h } (raLo (rE x i.toNat k.toNat h.toNat))) ∧ True ∧ (0 : Int) = aqR { x := x, i := i, k := k, h := h } (raHi (rE x i.toNat k.toNat h.toNat))) ∧ (True ∧ (True ∧ True ∧ (0 : Int) = aqR { x := x, i := i, k := k, h := h } (raLo (rN x i.toNat k.toNat h.toNat))) ∧ True ∧ (0 : Int) = aqR { x := x, i := i, k := k, h := h } (raHi (rN x i.toNat k.toNat h.toNat))) ∧ (True ∧ chkE x_1 = aqE { x := x, i := i, k := k, h := h }) ∧ True) ∧ ((chkE x_1 != (0 : Int)) = false → inRange IntKind.i64 ((↑(opF x_1).k : Int) - (1 : Int)) ∧ ∃ (x_2 : Int × Int × Int), ((True ∧ i = x_2.fst) ∧ (True ∧ (0 : Int) = x_2.snd.fst) ∧ (True ∧ (↑(opF x_1).k : Int) - (1 : Int) = x_2.snd.snd) ∧ True) ∧ True ∧ ((!within x_2.fst x_2.snd.fst x_2.snd.snd) = true → (True ∧ (True ∧ True ∧ (0 : Int) = aqR { x := x, i := i, k := k, h := h } (raLo (rE x i.toNat k.toNat h.toNat))) ∧ True ∧ (0 : Int) = aqR { x := x, i := i, k := k, h := h } (raHi (rE x i.toNat k.toNat h.toNat))) ∧ (True ∧ (True ∧ True ∧ (0 : Int) = aqR { x := x, i := i, k := k, h := h } (raLo (rN x i.toNat k.toNat h.toNat))) ∧ True ∧ (0 : Int) = aqR { x := x, i := i, k := k, h := h } (raHi (rN x i.toNat k.toNat h.toNat))) ∧ (True ∧ (22 : Int) = aqE { x := x, i := i, k := k, h := h }) ∧ True) ∧ ((!within x_2.fst x_2.snd.fst x_2.snd.snd) = false → ∃ (x_3 : Int × Int × Int), ((True ∧ k = x_3.fst) ∧ (True ∧ (0 : Int) = x_3.snd.fst) ∧ (True ∧ (↑(opF x_1).k : Int) - (1 : Int) = x_3.snd.snd) ∧ True) ∧ True ∧ ((!within x_3.fst x_3.snd.fst x_3.snd.snd) = true → (True ∧ (True ∧ True ∧ (0 : Int) = aqR { x := x, i := i, k := k, h := h } (raLo (rE x i.toNat k.toNat h.toNat))) ∧ True ∧ (0 : Int) = aqR { x := x, i := i, k := k, h := h } (raHi (rE x i.toNat k.toNat h.toNat))) ∧ (True ∧ (True ∧ True ∧ (0 : Int) = aqR { x := x, i := i, k := k, h := h } (raLo (rN x i.toNat k.toNat h.toNat))) ∧ True ∧ (0 : Int) = aqR { x := x, i := i, k := k, h := h } (raHi (rN x i.toNat k.toNat h.toNat))) ∧ (True ∧ (22 : Int) = aqE { x := x, i := i, k := k, h := h }) ∧ True) ∧ ((!within x_3.fst x_3.snd.fst x_3.snd.snd) = false → ((i == k) = true → (True ∧ (True ∧ True ∧ (0 : Int) = aqR { x := x, i := i, k := k, h := h } (raLo (rE x i.toNat k.toNat h.toNat))) ∧ True ∧ (0 : Int) = aqR { x := x, i := i, k := k, h := h } (raHi (rE x i.toNat k.toNat h.toNat))) ∧ (True ∧ (True ∧ True ∧ (0 : Int) = aqR { x := x, i := i, k := k, h := h } (raLo (rN x i.toNat k.toNat h.toNat))) ∧ True ∧ (0 : Int) = aqR { x := x, i := i, k := k, h := h } (raHi (rN x i.toNat k.toNat h.toNat))) ∧ (True ∧ (22 : Int) = aqE { x := x, i := i, k := k, h := h }) ∧ True) ∧ ((i == k) = false → ∃ (x_4 : Fleet × Int), ((True ∧ (((True ∧ True ∧ True ∧ (opF x_1).hE = x_4.fst.hE ∧ ∀ (i : Nat), i < (opF x_1).hE → (True ∧ (opF x_1).e i 0 = x_4.fst.e i 0) ∧ (opF x_1).e i 1 = x_4.fst.e i 1) ∧ True ∧ True ∧ (opF x_1).hN = x_4.fst.hN ∧ ∀ (i : Nat), i < (opF x_1).hN → (True ∧ (opF x_1).n i 0 = x_4.fst.n i 0) ∧ (opF x_1).n i 1 = x_4.fst.n i 1) ∧ True ∧ (opF x_1).gap = x_4.fst.gap) ∧ True ∧ True ∧ (opF x_1).k = x_4.fst.k ∧ ∀ (i : Nat), i < (opF x_1).k → (((((((((True ∧ (opF x_1).net i 0 = x_4.fst.net i 0) ∧ (opF x_1).net i 1 = x_4.fst.net i 1) ∧ (opF x_1).net i 2 = x_4.fst.net i 2) ∧ (opF x_1).net i 3 = x_4.fst.net i 3) ∧ (opF x_1).net i 4 = x_4.fst.net i 4) ∧ (opF x_1).net i 5 = x_4.fst.net i 5) ∧ (opF x_1).net i 6 = x_4.fst.net i 6) ∧ (opF x_1).net i 7 = x_4.fst.net i 7) ∧ (opF x_1).net i 8 = x_4.fst.net i 8) ∧ (opF x_1).net i 9 = x_4.fst.net i 9) ∧ (True ∧ i = x_4.snd) ∧ True) ∧ ((x_4.fst.hE < (4611686018427387904 : Nat) ∧ x_4.fst.hN < (4611686018427387904 : Nat) ∧ x_4.fst.k < (4611686018427387904 : Nat)) ∧ (0 : Int) ≤ x_4.snd ∧ x_4.snd < (↑x_4.fst.k : Int)) ∧ ∃ (x_5 : (Nat → Int) × Int), ((True ∧ (((((((((True ∧ True ∧ x_4.fst.net x_4.snd.toNat 0 = x_5.fst 0) ∧ True ∧ x_4.fst.net x_4.snd.toNat 1 = x_5.fst 1) ∧ True ∧ x_4.fst.net x_4.snd.toNat 2 = x_5.fst 2) ∧ True ∧ x_4.fst.net x_4.snd.toNat 3 = x_5.fst 3) ∧ True ∧ x_4.fst.net x_4.snd.toNat 4 = x_5.fst 4) ∧ True ∧ x_4.fst.net x_4.snd.toNat 5 = x_5.fst 5) ∧ True ∧ x_4.fst.net x_4.snd.toNat 6 = x_5.fst 6) ∧ True ∧ x_4.fst.net x_4.snd.toNat 7 = x_5.fst 7) ∧ True ∧ x_4.fst.net x_4.snd.toNat 8 = x_5.fst 8) ∧ True ∧ x_4.fst.net x_4.snd.toNat 9 = x_5.fst 9) ∧ (True ∧ h = x_5.snd) ∧ True) ∧ True ∧ ((!within x_5.snd (x_5.fst (4 : Nat)) (x_5.fst (5 : Nat))) = true → (True ∧ (True ∧ True ∧ (0 : Int) = aqR { x := x, i := i, k := k, h := h } (raLo (rE x i.toNat k.toNat h.toNat))) ∧ True ∧ (0 : Int) = aqR { x := x, i := i, k := k, h := h } (raHi (rE x i.toNat k.toNat h.toNat))) ∧ (True ∧ (True ∧ True ∧ (0 : Int) = aqR { x := x, i := i, k := k, h := h } (raLo (rN x i.toNat k.toNat h.toNat))) ∧ True ∧ (0 : Int) = aqR { x := x, i := i, k := k, h := h } (raHi (rN x i.toNat k.toNat h.toNat))) ∧ (True ∧ (22 : Int) = aqE { x := x, i := i, k := k, h := h }) ∧ True) ∧ ((!within x_5.snd (x_5.fst (4 : Nat)) (x_5.fst (5 : Nat))) = false → ∃ (x_6 : Fleet × Int), ((True ∧ (((True ∧ True ∧ True ∧ (opF x_1).hE = x_6.fst.hE ∧ ∀ (i : Nat), i < (opF x_1).hE → (True ∧ (opF x_1).e i 0 = x_6.fst.e i 0) ∧ (opF x_1).e i 1 = x_6.fst.e i 1) ∧ True ∧ True ∧ (opF x_1).hN = x_6.fst.hN ∧ ∀ (i : Nat), i < (opF x_1).hN → (True ∧ (opF x_1).n i 0 = x_6.fst.n i 0) ∧ (opF x_1).n i 1 = x_6.fst.n i 1) ∧ True ∧ (opF x_1).gap = x_6.fst.gap) ∧ True ∧ True ∧ (opF x_1).k = x_6.fst.k ∧ ∀ (i : Nat), i < (opF x_1).k → (((((((((True ∧ (opF x_1).net i 0 = x_6.fst.net i 0) ∧ (opF x_1).net i 1 = x_6.fst.net i 1) ∧ (opF x_1).net i 2 = x_6.fst.net i 2) ∧ (opF x_1).net i 3 = x_6.fst.net i 3) ∧ (opF x_1).net i 4 = x_6.fst.net i 4) ∧ (opF x_1).net i 5 = x_6.fst.net i 5) ∧ (opF x_1).net i 6 = x_6.fst.net i 6) ∧ (opF x_1).net i 7 = x_6.fst.net i 7) ∧ (opF x_1).net i 8 = x_6.fst.net i 8) ∧ (opF x_1).net i 9 = x_6.fst.net i 9) ∧ (True ∧ k = x_6.snd) ∧ True) ∧ ((x_6.fst.hE < (4611686018427387904 : Nat) ∧ x_6.fst.hN < (4611686018427387904 : Nat) ∧ x_6.fst.k < (4611686018427387904 : Nat)) ∧ (0 : Int) ≤ x_6.snd ∧ x_6.snd < (↑x_6.fst.k : Int)) ∧ ∃ (x_7 : (Nat → Int) × Int), ((True ∧ (((((((((True ∧ True ∧ x_6.fst.net x_6.snd.toNat 0 = x_7.fst 0) ∧ True ∧ x_6.fst.net x_6.snd.toNat 1 = x_7.fst 1) ∧ True ∧ x_6.fst.net x_6.snd.toNat 2 = x_7.fst 2) ∧ True ∧ x_6.fst.net x_6.snd.toNat 3 = x_7.fst 3) ∧ True ∧ x_6.fst.net x_6.snd.toNat 4 = x_7.fst 4) ∧ True ∧ x_6.fst.net x_6.snd.toNat 5 = x_7.fst 5) ∧ True ∧ x_6.fst.net x_6.snd.toNat 6 = x_7.fst 6) ∧ True ∧ x_6.fst.net x_6.snd.toNat 7 = x_7.fst 7) ∧ True ∧ x_6.fst.net x_6.snd.toNat 8 = x_7.fst 8) ∧ True ∧ x_6.fst.net x_6.snd.toNat 9 = x_7.fst 9) ∧ (True ∧ h = x_7.snd) ∧ True) ∧ True ∧ ((!within x_7.snd (x_7.fst (4 : Nat)) (x_7.fst (5 : Nat))) = true → (True ∧ (True ∧ True ∧ (0 : Int) = aqR { x := x, i := i, k := k, h := h } (raLo (rE x i.toNat k.toNat h.toNat))) ∧ True ∧ (0 : Int) = aqR { x := x, i := i, k := k, h := h } (raHi (rE x i.toNat k.toNat h.toNat))) ∧ (True ∧ (True ∧ True ∧ (0 : Int) = aqR { x := x, i := i, k := k, h := h } (raLo (rN x i.toNat k.toNat h.toNat))) ∧ True ∧ (0 : Int) = aqR { x := x, i := i, k := k, h := h } (raHi (rN x i.toNat k.toNat h.toNat))) ∧ (True ∧ (22 : Int) = aqE { x := x, i := i, k := k, h := h }) ∧ True) ∧ ((!within x_7.snd (x_7.fst (4 : Nat)) (x_7.fst (5 : Nat))) = false → ∃ (x_8 : Ask × Nat), ((True ∧ (((True ∧ True ∧ True ∧ (opF x_1).hE = x_8.fst.x.hE ∧ ∀ (i : Nat), i < (opF x_1).hE → (True ∧ (opF x_1).e i 0 = x_8.fst.x.e i 0) ∧ (opF x_1).e i 1 = x_8.fst.x.e i 1) ∧ True ∧ True ∧ (opF x_1).hN = x_8.fst.x.hN ∧ ∀ (i : Nat), i < (opF x_1).hN → (True ∧ (opF x_1).n i 0 = x_8.fst.x.n i 0) ∧ (opF x_1).n i 1 = x_8.fst.x.n i 1) ∧ True ∧ (opF x_1).gap = x_8.fst.x.gap) ∧ True ∧ True ∧ (opF x_1).k = x_8.fst.x.k ∧ ∀ (i : Nat), i < (opF x_1).k → (((((((((True ∧ (opF x_1).net i 0 = x_8.fst.x.net i 0) ∧ (opF x_1).net i 1 = x_8.fst.x.net i 1) ∧ (opF x_1).net i 2 = x_8.fst.x.net i 2) ∧ (opF x_1).net i 3 = x_8.fst.x.net i 3) ∧ (opF x_1).net i 4 = x_8.fst.x.net i 4) ∧ (opF x_1).net i 5 = x_8.fst.x.net i 5) ∧ (opF x_1).net i 6 = x_8.fst.x.net i 6) ∧ (opF x_1).net i 7 = x_8.fst.x.net i 7) ∧ (opF x_1).net i 8 = x_8.fst.x.net i 8) ∧ (opF x_1).net i 9 = x_8.fst.x.net i 9) ∧ (True ∧ (True ∧ True ∧ i = (↑x_8.fst.i : Int)) ∧ True ∧ k = (↑x_8.fst.k : Int)) ∧ (True ∧ h = x_8.fst.h) ∧ (True ∧ (((True ∧ True ∧ (CV.fn (119 : Nat) [] (fun (x x_9 : Nat) => CV.any) (0 : Nat) fun (x : Nat) => CV.any) = [fnC ((119 : Nat) + (5 : Nat) * x_8.snd), fnC ((120 : Nat) + (5 : Nat) * x_8.snd), fnC ((122 : Nat) + (4 : Nat) * x_8.snd), fnC ((123 : Nat) + (4 : Nat) * x_8.snd)].getD 0 CV.any) ∧ True ∧ (CV.fn (120 : Nat) [] (fun (x x_9 : Nat) => CV.any) (0 : Nat) fun (x : Nat) => CV.any) = [fnC ((119 : Nat) + (5 : Nat) * x_8.snd), fnC ((120 : Nat) + (5 : Nat) * x_8.snd), fnC ((122 : Nat) + (4 : Nat) * x_8.snd), fnC ((123 : Nat) + (4 : Nat) * x_8.snd)].getD 1 CV.any) ∧ True ∧ (CV.fn (122 : Nat) [] (fun (x x_9 : Nat) => CV.any) (0 : Nat) fun (x : Nat) => CV.any) = [fnC ((119 : Nat) + (5 : Nat) * x_8.snd), fnC ((120 : Nat) + (5 : Nat) * x_8.snd), fnC ((122 : Nat) + (4 : Nat) * x_8.snd), fnC ((123 : Nat) + (4 : Nat) * x_8.snd)].getD 2 CV.any) ∧ True ∧ (CV.fn (123 : Nat) [] (fun (x x_9 : Nat) => CV.any) (0 : Nat) fun (x : Nat) => CV.any) = [fnC ((119 : Nat) + (5 : Nat) * x_8.snd), fnC ((120 : Nat) + (5 : Nat) * x_8.snd), fnC ((122 : Nat) + (4 : Nat) * x_8.snd), fnC ((123 : Nat) + (4 : Nat) * x_8.snd)].getD 3 CV.any) ∧ True) ∧ ((ChkW x_8.fst.x ∧ (x_8.fst.x.hE < (4611686018427387904 : Nat) ∧ x_8.fst.x.hN < (4611686018427387904 : Nat) ∧ x_8.fst.x.k < (4611686018427387904 : Nat)) ∧ x_8.fst.i < x_8.fst.x.k ∧ x_8.fst.k < x_8.fst.x.k ∧ (0 : Int) ≤ x_8.fst.h ∧ x_8.fst.h ≤ (24 : Int)) ∧ x_8.snd ≤ (1 : Nat)) ∧ ∃ (x_9 : Ask × Nat), ((True ∧ (((True ∧ True ∧ True ∧ (opF x_1).hE = x_9.fst.x.hE ∧ ∀ (i : Nat), i < (opF x_1).hE → (True ∧ (opF x_1).e i 0 = x_9.fst.x.e i 0) ∧ (opF x_1).e i 1 = x_9.fst.x.e i 1) ∧ True ∧ True ∧ (opF x_1).hN = x_9.fst.x.hN ∧ ∀ (i : Nat), i < (opF x_1).hN → (True ∧ (opF x_1).n i 0 = x_9.fst.x.n i 0) ∧ (opF x_1).n i 1 = x_9.fst.x.n i 1) ∧ True ∧ (opF x_1).gap = x_9.fst.x.gap) ∧ True ∧ True ∧ (opF x_1).k = x_9.fst.x.k ∧ ∀ (i : Nat), i < (opF x_1).k → (((((((((True ∧ (opF x_1).net i 0 = x_9.fst.x.net i 0) ∧ (opF x_1).net i 1 = x_9.fst.x.net i 1) ∧ (opF x_1).net i 2 = x_9.fst.x.net i 2) ∧ (opF x_1).net i 3 = x_9.fst.x.net i 3) ∧ (opF x_1).net i 4 = x_9.fst.x.net i 4) ∧ (opF x_1).net i 5 = x_9.fst.x.net i 5) ∧ (opF x_1).net i 6 = x_9.fst.x.net i 6) ∧ (opF x_1).net i 7 = x_9.fst.x.net i 7) ∧ (opF x_1).net i 8 = x_9.fst.x.net i 8) ∧ (opF x_1).net i 9 = x_9.fst.x.net i 9) ∧ (True ∧ (True ∧ True ∧ i = (↑x_9.fst.i : Int)) ∧ True ∧ k = (↑x_9.fst.k : Int)) ∧ (True ∧ h = x_9.fst.h) ∧ (True ∧ (((True ∧ True ∧ (CV.fn (124 : Nat) [] (fun (x x_10 : Nat) => CV.any) (0 : Nat) fun (x : Nat) => CV.any) = [fnC ((119 : Nat) + (5 : Nat) * x_9.snd), fnC ((120 : Nat) + (5 : Nat) * x_9.snd), fnC ((122 : Nat) + (4 : Nat) * x_9.snd), fnC ((123 : Nat) + (4 : Nat) * x_9.snd)].getD 0 CV.any) ∧ True ∧ (CV.fn (125 : Nat) [] (fun (x x_10 : Nat) => CV.any) (0 : Nat) fun (x : Nat) => CV.any) = [fnC ((119 : Nat) + (5 : Nat) * x_9.snd), fnC ((120 : Nat) + (5 : Nat) * x_9.snd), fnC ((122 : Nat) + (4 : Nat) * x_9.snd), fnC ((123 : Nat) + (4 : Nat) * x_9.snd)].getD 1 CV.any) ∧ True ∧ (CV.fn (126 : Nat) [] (fun (x x_10 : Nat) => CV.any) (0 : Nat) fun (x : Nat) => CV.any) = [fnC ((119 : Nat) + (5 : Nat) * x_9.snd), fnC ((120 : Nat) + (5 : Nat) * x_9.snd), fnC ((122 : Nat) + (4 : Nat) * x_9.snd), fnC ((123 : Nat) + (4 : Nat) * x_9.snd)].getD 2 CV.any) ∧ True ∧ (CV.fn (127 : Nat) [] (fun (x x_10 : Nat) => CV.any) (0 : Nat) fun (x : Nat) => CV.any) = [fnC ((119 : Nat) + (5 : Nat) * x_9.snd), fnC ((120 : Nat) + (5 : Nat) * x_9.snd), fnC ((122 : Nat) + (4 : Nat) * x_9.snd), fnC ((123 : Nat) + (4 : Nat) * x_9.snd)].getD 3 CV.any) ∧ True) ∧ ((ChkW x_9.fst.x ∧ (x_9.fst.x.hE < (4611686018427387904 : Nat) ∧ x_9.fst.x.hN < (4611686018427387904 : Nat) ∧ x_9.fst.x.k < (4611686018427387904 : Nat)) ∧ x_9.fst.i < x_9.fst.x.k ∧ x_9.fst.k < x_9.fst.x.k ∧ (0 : Int) ≤ x_9.fst.h ∧ x_9.fst.h ≤ (24 : Int)) ∧ x_9.snd ≤ (1 : Nat)) ∧ (True ∧ (True ∧ True ∧ apLo x_8.fst.x (td x_8.fst.x x_8.snd) x_8.snd ((6 : Nat) + (2 : Nat) * x_8.snd) x_8.fst.i x_8.fst.k x_8.fst.h = aqR { x := x, i := i, k := k, h := h } (raLo (rE x i.toNat k.toNat h.toNat))) ∧ True ∧ apHi x_8.fst.x (td x_8.fst.x x_8.snd) x_8.snd ((6 : Nat) + (2 : Nat) * x_8.snd) x_8.fst.i x_8.fst.k x_8.fst.h = aqR { x := x, i := i, k := k, h := h } (raHi (rE x i.toNat k.toNat h.toNat))) ∧ (True ∧ (True ∧ True ∧ apLo x_9.fst.x (td x_9.fst.x x_9.snd) x_9.snd ((6 : Nat) + (2 : Nat) * x_9.snd) x_9.fst.i x_9.fst.k x_9.fst.h = aqR { x := x, i := i, k := k, h := h } (raLo (rN x i.toNat k.toNat h.toNat))) ∧ True ∧ apHi x_9.fst.x (td x_9.fst.x x_9.snd) x_9.snd ((6 : Nat) + (2 : Nat) * x_9.snd) x_9.fst.i x_9.fst.k x_9.fst.h = aqR { x := x, i := i, k := k, h := h } (raHi (rN x i.toNat k.toNat h.toNat))) ∧ (True ∧ (0 : Int) = aqE { x := x, i := i, k := k, h := h }) ∧ True))))))) (by kernel_rfl) ?_
 simp only [flq, true_and, and_true, inR, Prod.exists, Prod.forall, and_assoc, exists_and_left, exists_eq_left', exists_eq_left, forall_eq, exists_const, forall_const, loopN, loopM, fa2, fas, fas2, dup1, dup2, dup3, dup4, ite_true, exhs, exhn, exhz, exho, exA, ex1, ex2, ex3, ex4, ex5, beqI, bneI, decide_true, Bool.true_and, decide_eq_true_eq, decide_eq_false_iff_not, ne_eq, Decidable.not_not]
 obtain ⟨w1, w2, w3⟩ := (show x.wf from ha)
 have no : ∀ v : Int, v ≠ 0 → aqE ⟨x, i, k, h⟩ = v → ∀ t, 0 = aqR ⟨x, i, k, h⟩ t := fun v hv e t => by
   unfold aqR; rw [if_neg (by rw [e]; exact hv)]
 refine exF ⟨w1, w2, w3, fun e => ?_, fun e => ?_⟩
 · obtain ⟨hc, e20⟩ := not_chk e
   have ev : aqE ⟨x, i, k, h⟩ = 20 := by unfold aqE; exact if_neg hc
   have z := no 20 (by decide) ev
   exact ⟨z _, z _, z _, z _, by rw [ev, e20]⟩
 · have hc := chk_of e
   rw [opF_eq hc]
   obtain ⟨s1, s2, s3, s4, s5, s6, s7⟩ := chk_size hc
   have fin : aqE ⟨x, i, k, h⟩ = 22 → 0 = aqR ⟨x, i, k, h⟩ (raLo (rE x i.toNat k.toNat h.toNat)) ∧ 0 = aqR ⟨x, i, k, h⟩ (raHi (rE x i.toNat k.toNat h.toNat)) ∧ 0 = aqR ⟨x, i, k, h⟩ (raLo (rN x i.toNat k.toNat h.toNat)) ∧ 0 = aqR ⟨x, i, k, h⟩ (raHi (rN x i.toNat k.toNat h.toNat)) ∧ 22 = aqE ⟨x, i, k, h⟩ := fun ev => by
     have z := no 22 (by decide) ev
     exact ⟨z _, z _, z _, z _, ev.symm⟩
   have lyE : aqE ⟨x, i, k, h⟩ = if i = k then 22 else if lyB x i h then (if lyB x k h then 0 else 22) else 22 := by unfold aqE; exact if_pos hc
   have ly : ∀ j, lyB x j h = (within j 0 ((x.k : Int) - 1) && within h (x.net j.toNat 4) (x.net j.toNat 5)) := fun _ => rfl
   refine ⟨by omega, by omega, fun h1 => fin ?_, fun h1 => ⟨fun h2 => fin ?_, fun h2 => ⟨fun h3 => fin ?_, fun h3 => ?_⟩⟩⟩
   · rw [Bool.not_eq_true'] at h1
     rw [lyE, ly i, h1]; simp
   · rw [Bool.not_eq_true'] at h2
     rw [lyE, ly k, h2]; simp
   · rw [lyE, if_pos h3]
   · rw [Bool.not_eq_false'] at h1 h2
     have g1 := Nm.within_iff.1 h1
     have g2 := Nm.within_iff.1 h2
     refine exF ⟨w1, w2, w3, g1.1, by omega, exNet ⟨fun h4 => fin ?_, fun h4 => exF ⟨w1, w2, w3, g2.1, by omega, exNet ⟨fun h5 => fin ?_, fun h5 => ?_⟩⟩⟩⟩
     · rw [Bool.not_eq_true'] at h4
       rw [lyE, ly i, h4]; simp
     · rw [Bool.not_eq_true'] at h5
       rw [lyE, ly k, h5]; simp
     · rw [Bool.not_eq_false'] at h4 h5
       have ev : aqE ⟨x, i, k, h⟩ = 0 := by rw [lyE, if_neg h3, ly i, ly k, h1, h2, h4, h5]; rfl
       have z : ∀ t, aqR ⟨x, i, k, h⟩ t = t := fun t => by unfold aqR; rw [if_pos ev]
       have g4 := Nm.within_iff.1 h4
       have g5 := Nm.within_iff.1 h5
       obtain ⟨_, _, _, _, ⟨i3, _⟩, ⟨_, i5⟩, _⟩ := chk_net hc (i := i.toNat) (by omega)
       obtain ⟨_, _, _, _, ⟨k3, _⟩, ⟨_, k5⟩, _⟩ := chk_net hc (i := k.toNat) (by omega)
       have hh : h = ((h.toNat : Nat) : Int) := by omega
       obtain ⟨a1, a2⟩ := ap_same (x := x) (i := i.toNat) (k := k.toNat) (h := h.toNat) x.e 0 6 i3 k3 (by omega) (by omega) x.hE
       obtain ⟨b1, b2⟩ := ap_same (x := x) (i := i.toNat) (k := k.toNat) (h := h.toNat) x.n 1 8 i3 k3 (by omega) (by omega) x.hN
       rw [← hh] at a1 a2 b1 b2
       simp only [z, ev]
       exact ⟨⟨x, i.toNat, k.toNat, h⟩, rfl, fun _ _ => ⟨rfl, rfl⟩, rfl, fun _ _ => ⟨rfl, rfl⟩, rfl, rfl, fun _ _ => ⟨rfl, rfl, rfl, rfl, rfl, rfl, rfl, rfl, rfl, rfl⟩, by show i = ((i.toNat : Nat) : Int); omega, by show k = ((k.toNat : Nat) : Int); omega, rfl, 0, rfl, rfl, rfl, rfl, chkW_of hc, w1, w2, w3, by show i.toNat < x.k; omega, by show k.toNat < x.k; omega, by show 0 ≤ h; omega, by show h ≤ 24; omega, by omega,
         ⟨x, i.toNat, k.toNat, h⟩, rfl, fun _ _ => ⟨rfl, rfl⟩, rfl, fun _ _ => ⟨rfl, rfl⟩, rfl, rfl, fun _ _ => ⟨rfl, rfl, rfl, rfl, rfl, rfl, rfl, rfl, rfl, rfl⟩, by show i = ((i.toNat : Nat) : Int); omega, by show k = ((k.toNat : Nat) : Int); omega, rfl, 1, rfl, rfl, rfl, rfl, chkW_of hc, w1, w2, w3, by show i.toNat < x.k; omega, by show k.toNat < x.k; omega, by show 0 ≤ h; omega, by show h ≤ 24; omega, by omega, a1, a2, b1, b2, trivial⟩
end Go.Proofs.YtcfmdhlohahhcaaDoor
namespace Nm
open Go Go.Sx
def srch {α : Type} (f : Nat → Option α) : Nat → Option α
 | 0 => none
 | n + 1 => match srch f n with | some a => some a | none => f n
theorem srch_none {α : Type} {f : Nat → Option α} {n : Nat} : srch f n = none ↔ ∀ i, i < n → f i = none := by
 induction n with
 | zero => simp [srch]
 | succ n ih =>
   unfold srch
   cases h : srch f n with
   | some a =>
     simp only
     constructor
     · intro e; cases e
     · intro e; rw [ih.2 (fun i hi => e i (by omega))] at h; cases h
   | none =>
     simp only
     have h' := ih.1 h
     constructor
     · intro e i hi
       by_cases c : i = n
       · subst c; exact e
       · exact h' i (by omega)
     · intro e; exact e n (by omega)
theorem srch_some {α : Type} {f : Nat → Option α} {n i : Nat} {a : α} (hi : i < n) (ha : f i = some a) (h : ∀ j, j < i → f j = none) : srch f n = some a := by
 induction n with
 | zero => omega
 | succ n ih =>
   unfold srch
   by_cases c : i = n
   · subst c
     rw [srch_none.2 h]
     exact ha
   · rw [ih (by omega)]
def firstP (H n : Nat) (p : Nat → Nat → Nat → Bool) : Option (Nat × Nat × Nat) :=
 srch (fun h => srch (fun i => srch (fun k => if decide (i < k) && p h i k then some (h, i, k) else none) n) n) H
theorem at_none {p : Nat → Nat → Nat → Bool} {h i k : Nat} : (if decide (i < k) && p h i k then some (h, i, k) else none) = none ↔ (i < k → p h i k = false) := by
 by_cases c : i < k <;> cases hp : p h i k <;> simp [c]
theorem firstP_none {H n : Nat} {p : Nat → Nat → Nat → Bool} : firstP H n p = none ↔ ∀ h, h < H → ∀ i, i < n → ∀ k, k < n → i < k → p h i k = false := by
 unfold firstP
 rw [srch_none]
 simp only [srch_none, at_none]
theorem firstP_some {H n : Nat} {p : Nat → Nat → Nat → Bool} {h i k : Nat} (hh : h < H) (hi : i < n) (hk : k < n) (hik : i < k) (hp : p h i k = true)
   (a1 : ∀ h', h' < h → ∀ i, i < n → ∀ k, i < k → k < n → p h' i k = false) (a2 : ∀ i', i' < i → ∀ k, i' < k → k < n → p h i' k = false) (a3 : ∀ k', i < k' → k' < k → p h i k' = false) : firstP H n p = some (h, i, k) := by
 unfold firstP
 refine srch_some hh (srch_some hi (srch_some hk (by simp [hik, hp]) fun j hj => at_none.2 fun hij => a3 j hij hj) fun j hj => srch_none.2 fun k hk => at_none.2 fun hjk => a2 j hj k hjk hk) fun j hj => srch_none.2 fun i hi => srch_none.2 fun k hk => at_none.2 fun hik => a1 j hj i hi k hik hk
def oH : Option (Nat × Nat × Nat) → Int | some x => x.1 | none => 0
def oI : Option (Nat × Nat × Nat) → Int | some x => x.2.1 | none => 0
def oK : Option (Nat × Nat × Nat) → Int | some x => x.2.2 | none => 0
def oE : Option (Nat × Nat × Nat) → Int | some _ => 0 | none => 4
def foulTV (o : Option (Nat × Nat × Nat)) : TV := .a 3 (ofList [.int .i64 (oH o), .int .i64 (oI o), .int .i64 (oK o)])
end Nm
namespace Go.Proofs.YtcfmdhlohahhcaaDoor
open Go Go.Sx Nm
set_option maxRecDepth 100000
def canH (x : Fleet) (h i k : Nat) : Bool := lyB x i h && lyB x k h && canP ⟨x, i, k, h⟩
def aS1 (x : Fleet) (p : Nat → Nat → Nat → Bool) : Ann := { G := Nat, ok := fun _ g => g ≤ x.hE + 1 ∧ ∀ h, h < g → ∀ i, i < x.k → ∀ k, i < k → k < x.k → p h i k = false, dom := fun _ => [], tm := fun _ g => [(13, .t (intC g))], hp := fun _ _ => [], mu := fun _ g => x.hE + 1 - g }
def aS2 (x : Fleet) (p : Nat → Nat → Nat → Bool) : Ann := { G := Nat × Nat, ok := fun st g => isB (st.hp (osN (st.tm 2))) 0 g.2 ∧ g.1 ≤ x.k ∧ ∀ i, i < g.1 → ∀ k, i < k → k < x.k → p g.2 i k = false, dom := fun _ => [], tm := fun _ g => [(10, .t (intC g.1))], hp := fun _ _ => [], mu := fun _ g => x.k - g.1 }
def aS3 (x : Fleet) (p : Nat → Nat → Nat → Bool) : Ann := { G := Nat × Nat × Nat, ok := fun st g => isB (st.hp (osN (st.tm 2))) 0 g.2.2 ∧ isI (st.tm 4) g.2.1 ∧ g.2.1 < g.1 ∧ g.1 ≤ x.k ∧ ∀ k, g.2.1 < k → k < g.1 → p g.2.2 g.2.1 k = false, dom := fun _ => [], tm := fun _ g => [(5, .t (intC g.1))], hp := fun _ _ => [], mu := fun _ g => x.k - g.1 }
def canO (x : Fleet) : Option (Nat × Nat × Nat) := if Nm.chk x then firstP (x.hE + 1) x.k (canH x) else none
def canE (x : Fleet) : Int := if Nm.chk x then oE (canO x) else 20
def sCanF : Sig := ⟨Fleet, fun x => [fleetTV x], fun x => x.wf, fun x => [.v (foulTV (canO x)), .v (intC (canE x))]⟩
theorem q24 (x : Fleet) (h : x.wf) : CallQ Tryd.prog E0 24 (sCanF.arg x) (sCanF.res x) := by
 refine bare_say E0_ok [(65, sCanP), (67, sOpen), (127, sTdN), (123, sTdE), (126, sSl 8), (122, sSl 6), (125, sLg 1), (120, sLg 0), (124, sAt 1), (119, sAt 0), (121, sLong), (56, sLie), (55, sNet)] (show SigsOk Tryd.prog E0 [(65, sCanP), (67, sOpen), (127, sTdN), (123, sTdE), (126, sSl 8), (122, sSl 6), (125, sLg 1), (120, sLg 0), (124, sAt 1), (119, sAt 0), (121, sLong), (56, sLie), (55, sNet)] from (((((((((((((SigsOk.nil.cons u55 q55).cons u56 fun x _ => q56 x).cons u121 fun x _ => q121 x).cons u119 fun x _ => q119 x).cons u124 fun x _ => q124 x).cons u120 fun x _ => q120 x).cons u125 fun x _ => q125 x).cons u122 fun x _ => q122 x).cons u126 fun x _ => q126 x).cons u123 q123).cons u127 q127).cons u67 q67).cons u65 q65)) [] EvensOk.nil runs { l := [(64, 2, aS1 (opF x) (canH x)), (100, 1, aS2 (opF x) (canH x)), (100, 4, aS3 (opF x) (canH x))] } (fuel := 8) ?_
 refine of_red (q := ∃ (x_1 : Fleet), ((True ∧ flq x x_1) ∧ True) ∧ (x_1.hE < (4611686018427387904 : Nat) ∧ x_1.hN < (4611686018427387904 : Nat) ∧ x_1.k < (4611686018427387904 : Nat)) ∧ ((chkE x_1 != (0 : Int)) = true → (True ∧ ((True ∧ True ∧ (0 : Int) = oH (canO x)) ∧ True ∧ (0 : Int) = oI (canO x)) ∧ True ∧ (0 : Int) = oK (canO x)) ∧ (True ∧ chkE x_1 = canE x) ∧ True) ∧ ((chkE x_1 != (0 : Int)) = false → inRange IntKind.i64 ((↑(opF x_1).hE : Int) + (1 : Int)) ∧ (∃ (g : Nat), (g ≤ (opF x).hE + (1 : Nat) ∧ ∀ (h : Nat), h < g → ∀ (i : Nat), i < (opF x).k → ∀ (k : Nat), i < k → k < (opF x).k → canH x h i k = false) ∧ True ∧ ((True ∧ (0 : Int) = (↑g : Int)) ∧ True) ∧ True) ∧ ∀ (g : Nat), (g ≤ (opF x).hE + (1 : Nat) ∧ ∀ (h : Nat), h < g → ∀ (i : Nat), i < (opF x).k → ∀ (k : Nat), i < k → k < (opF x).k → canH x h i k = false) → (decide ((↑g : Int) < (↑(opF x_1).hE : Int) + (1 : Int)) = true → (∃ (g_1 : Nat × Nat), ((↑g : Int) = (↑g_1.snd : Int) ∧ g_1.fst ≤ (opF x).k ∧ ∀ (i : Nat), i < g_1.fst → ∀ (k : Nat), i < k → k < (opF x).k → canH x g_1.snd i k = false) ∧ True ∧ ((True ∧ (0 : Int) = (↑g_1.fst : Int)) ∧ True) ∧ True) ∧ ∀ (g_1 : Nat × Nat), ((↑g : Int) = (↑g_1.snd : Int) ∧ g_1.fst ≤ (opF x).k ∧ ∀ (i : Nat), i < g_1.fst → ∀ (k : Nat), i < k → k < (opF x).k → canH x g_1.snd i k = false) → (decide ((↑g_1.fst : Int) < (↑(opF x_1).k : Int)) = true → inRange IntKind.i64 ((↑g_1.fst : Int) + (1 : Int)) ∧ (∃ (g_2 : Nat × Nat × Nat), ((↑g : Int) = (↑g_2.snd.snd : Int) ∧ (↑g_1.fst : Int) = (↑g_2.snd.fst : Int) ∧ g_2.snd.fst < g_2.fst ∧ g_2.fst ≤ (opF x).k ∧ ∀ (k : Nat), g_2.snd.fst < k → k < g_2.fst → canH x g_2.snd.snd g_2.snd.fst k = false) ∧ True ∧ ((True ∧ (↑g_1.fst : Int) + (1 : Int) = (↑g_2.fst : Int)) ∧ True) ∧ True) ∧ ∀ (g_2 : Nat × Nat × Nat), ((↑g : Int) = (↑g_2.snd.snd : Int) ∧ (↑g_1.fst : Int) = (↑g_2.snd.fst : Int) ∧ g_2.snd.fst < g_2.fst ∧ g_2.fst ≤ (opF x).k ∧ ∀ (k : Nat), g_2.snd.fst < k → k < g_2.fst → canH x g_2.snd.snd g_2.snd.fst k = false) → (decide ((↑g_2.fst : Int) < (↑(opF x_1).k : Int)) = true → ∃ (x_2 : Fleet × Int), ((True ∧ (((True ∧ True ∧ True ∧ (opF x_1).hE = x_2.fst.hE ∧ ∀ (i : Nat), i < (opF x_1).hE → (True ∧ (opF x_1).e i 0 = x_2.fst.e i 0) ∧ (opF x_1).e i 1 = x_2.fst.e i 1) ∧ True ∧ True ∧ (opF x_1).hN = x_2.fst.hN ∧ ∀ (i : Nat), i < (opF x_1).hN → (True ∧ (opF x_1).n i 0 = x_2.fst.n i 0) ∧ (opF x_1).n i 1 = x_2.fst.n i 1) ∧ True ∧ (opF x_1).gap = x_2.fst.gap) ∧ True ∧ True ∧ (opF x_1).k = x_2.fst.k ∧ ∀ (i : Nat), i < (opF x_1).k → (((((((((True ∧ (opF x_1).net i 0 = x_2.fst.net i 0) ∧ (opF x_1).net i 1 = x_2.fst.net i 1) ∧ (opF x_1).net i 2 = x_2.fst.net i 2) ∧ (opF x_1).net i 3 = x_2.fst.net i 3) ∧ (opF x_1).net i 4 = x_2.fst.net i 4) ∧ (opF x_1).net i 5 = x_2.fst.net i 5) ∧ (opF x_1).net i 6 = x_2.fst.net i 6) ∧ (opF x_1).net i 7 = x_2.fst.net i 7) ∧ (opF x_1).net i 8 = x_2.fst.net i 8) ∧ (opF x_1).net i 9 = x_2.fst.net i 9) ∧ (True ∧ (↑g_1.fst : Int) = x_2.snd) ∧ True) ∧ ((x_2.fst.hE < (4611686018427387904 : Nat) ∧ x_2.fst.hN < (4611686018427387904 : Nat) ∧ x_2.fst.k < (4611686018427387904 : Nat)) ∧ (0 : Int) ≤ x_2.snd ∧ x_2.snd < (↑x_2.fst.k : Int)) ∧ ∃ (x_3 : (Nat → Int) × Int), ((True ∧ (((((((((True ∧ True ∧ x_2.fst.net x_2.snd.toNat 0 = x_3.fst 0) ∧ True ∧ x_2.fst.net x_2.snd.toNat 1 = x_3.fst 1) ∧ True ∧ x_2.fst.net x_2.snd.toNat 2 = x_3.fst 2) ∧ True ∧ x_2.fst.net x_2.snd.toNat 3 = x_3.fst 3) ∧ True ∧ x_2.fst.net x_2.snd.toNat 4 = x_3.fst 4) ∧ True ∧ x_2.fst.net x_2.snd.toNat 5 = x_3.fst 5) ∧ True ∧ x_2.fst.net x_2.snd.toNat 6 = x_3.fst 6) ∧ True ∧ x_2.fst.net x_2.snd.toNat 7 = x_3.fst 7) ∧ True ∧ x_2.fst.net x_2.snd.toNat 8 = x_3.fst 8) ∧ True ∧ x_2.fst.net x_2.snd.toNat 9 = x_3.fst 9) ∧ (True ∧ (↑g : Int) = x_3.snd) ∧ True) ∧ True ∧ (within x_3.snd (x_3.fst (4 : Nat)) (x_3.fst (5 : Nat)) = true → ∃ (x_4 : Fleet × Int), ((True ∧ (((True ∧ True ∧ True ∧ (opF x_1).hE = x_4.fst.hE ∧ ∀ (i : Nat), i < (opF x_1).hE → (True ∧ (opF x_1).e i 0 = x_4.fst.e i 0) ∧ (opF x_1).e i 1 = x_4.fst.e i 1) ∧ True ∧ True ∧ (opF x_1).hN = x_4.fst.hN ∧ ∀ (i : Nat), i < (opF x_1).hN → (True ∧ (opF x_1).n i 0 = x_4.fst.n i 0) ∧ (opF x_1).n i 1 = x_4.fst.n i 1) ∧ True ∧ (opF x_1).gap = x_4.fst.gap) ∧ True ∧ True ∧ (opF x_1).k = x_4.fst.k ∧ ∀ (i : Nat), i < (opF x_1).k → (((((((((True ∧ (opF x_1).net i 0 = x_4.fst.net i 0) ∧ (opF x_1).net i 1 = x_4.fst.net i 1) ∧ (opF x_1).net i 2 = x_4.fst.net i 2) ∧ (opF x_1).net i 3 = x_4.fst.net i 3) ∧ (opF x_1).net i 4 = x_4.fst.net i 4) ∧ (opF x_1).net i 5 = x_4.fst.net i 5) ∧ (opF x_1).net i 6 = x_4.fst.net i 6) ∧ (opF x_1).net i 7 = x_4.fst.net i 7) ∧ (opF x_1).net i 8 = x_4.fst.net i 8) ∧ (opF x_1).net i 9 = x_4.fst.net i 9) ∧ (True ∧ (↑g_2.fst : Int) = x_4.snd) ∧ True) ∧ ((x_4.fst.hE < (4611686018427387904 : Nat) ∧ x_4.fst.hN < (4611686018427387904 : Nat) ∧ x_4.fst.k < (4611686018427387904 : Nat)) ∧ (0 : Int) ≤ x_4.snd ∧ x_4.snd < (↑x_4.fst.k : Int)) ∧ ∃ (x_5 : (Nat → Int) × Int), ((True ∧ (((((((((True ∧ True ∧ x_4.fst.net x_4.snd.toNat 0 = x_5.fst 0) ∧ True ∧ x_4.fst.net x_4.snd.toNat 1 = x_5.fst 1) ∧ True ∧ x_4.fst.net x_4.snd.toNat 2 = x_5.fst 2) ∧ True ∧ x_4.fst.net x_4.snd.toNat 3 = x_5.fst 3) ∧ True ∧ x_4.fst.net x_4.snd.toNat 4 = x_5.fst 4) ∧ True ∧ x_4.fst.net x_4.snd.toNat 5 = x_5.fst 5) ∧ True ∧ x_4.fst.net x_4.snd.toNat 6 = x_5.fst 6) ∧ True ∧ x_4.fst.net x_4.snd.toNat 7 = x_5.fst 7) ∧ True ∧ x_4.fst.net x_4.snd.toNat 8 = x_5.fst 8) ∧ True ∧ x_4.fst.net x_4.snd.toNat 9 = x_5.fst 9) ∧ (True ∧ (↑g : Int) = x_5.snd) ∧ True) ∧ True ∧ (within x_5.snd (x_5.fst (4 : Nat)) (x_5.fst (5 : Nat)) = true → ∃ (x_6 : Ask), ((True ∧ (((True ∧ True ∧ True ∧ (opF x_1).hE = x_6.x.hE ∧ ∀ (i : Nat), i < (opF x_1).hE → (True ∧ (opF x_1).e i 0 = x_6.x.e i 0) ∧ (opF x_1).e i 1 = x_6.x.e i 1) ∧ True ∧ True ∧ (opF x_1).hN = x_6.x.hN ∧ ∀ (i : Nat), i < (opF x_1).hN → (True ∧ (opF x_1).n i 0 = x_6.x.n i 0) ∧ (opF x_1).n i 1 = x_6.x.n i 1) ∧ True ∧ (opF x_1).gap = x_6.x.gap) ∧ True ∧ True ∧ (opF x_1).k = x_6.x.k ∧ ∀ (i : Nat), i < (opF x_1).k → (((((((((True ∧ (opF x_1).net i 0 = x_6.x.net i 0) ∧ (opF x_1).net i 1 = x_6.x.net i 1) ∧ (opF x_1).net i 2 = x_6.x.net i 2) ∧ (opF x_1).net i 3 = x_6.x.net i 3) ∧ (opF x_1).net i 4 = x_6.x.net i 4) ∧ (opF x_1).net i 5 = x_6.x.net i 5) ∧ (opF x_1).net i 6 = x_6.x.net i 6) ∧ (opF x_1).net i 7 = x_6.x.net i 7) ∧ (opF x_1).net i 8 = x_6.x.net i 8) ∧ (opF x_1).net i 9 = x_6.x.net i 9) ∧ (True ∧ (True ∧ True ∧ (↑g_1.fst : Int) = (↑x_6.i : Int)) ∧ True ∧ (↑g_2.fst : Int) = (↑x_6.k : Int)) ∧ (True ∧ (↑g : Int) = x_6.h) ∧ True) ∧ (ChkW x_6.x ∧ (x_6.x.hE < (4611686018427387904 : Nat) ∧ x_6.x.hN < (4611686018427387904 : Nat) ∧ x_6.x.k < (4611686018427387904 : Nat)) ∧ x_6.i < x_6.x.k ∧ x_6.k < x_6.x.k ∧ (0 : Int) ≤ x_6.h ∧ x_6.h ≤ (24 : Int)) ∧ (canP x_6 = true → (True ∧ ((True ∧ True ∧ (↑g : Int) = oH (canO x)) ∧ True ∧ (↑g_1.fst : Int) = oI (canO x)) ∧ True ∧ (↑g_2.fst : Int) = oK (canO x)) ∧ (True ∧ (0 : Int) = canE x) ∧ True) ∧ (canP x_6 = false → inRange IntKind.i64 ((↑g_2.fst : Int) + (1 : Int)) ∧ ∃ (g' : Nat × Nat × Nat), ((↑g : Int) = (↑g'.snd.snd : Int) ∧ (↑g_1.fst : Int) = (↑g'.snd.fst : Int) ∧ g'.snd.fst < g'.fst ∧ g'.fst ≤ (opF x).k ∧ ∀ (k : Nat), g'.snd.fst < k → k < g'.fst → canH x g'.snd.snd g'.snd.fst k = false) ∧ (opF x).k - g'.fst < (opF x).k - g_2.fst ∧ True ∧ ((True ∧ (↑g_2.fst : Int) + (1 : Int) = (↑g'.fst : Int)) ∧ True) ∧ True)) ∧ (within x_5.snd (x_5.fst (4 : Nat)) (x_5.fst (5 : Nat)) = false → inRange IntKind.i64 ((↑g_2.fst : Int) + (1 : Int)) ∧ ∃ (g' : Nat × Nat × Nat), ((↑g : Int) = (↑g'.snd.snd : Int) ∧ (↑g_1.fst : Int) = (↑g'.snd.fst : Int) ∧ g'.snd.fst < g'.fst ∧ g'.fst ≤ (opF x).k ∧ ∀ (k : Nat), g'.snd.fst < k → k < g'.fst → canH x g'.snd.snd g'.snd.fst k = false) ∧ (opF x).k - g'.fst < (opF x).k - g_2.fst ∧ True ∧ ((True ∧ (↑g_2.fst : Int) + (1 : Int) = (↑g'.fst : Int)) ∧ True) ∧ True)) ∧ (within x_3.snd (x_3.fst (4 : Nat)) (x_3.fst (5 : Nat)) = false → inRange IntKind.i64 ((↑g_2.fst : Int) + (1 : Int)) ∧ ∃ (g' : Nat × Nat × Nat), ((↑g : Int) = (↑g'.snd.snd : Int) ∧ (↑g_1.fst : Int) = (↑g'.snd.fst : Int) ∧ g'.snd.fst < g'.fst ∧ g'.fst ≤ (opF x).k ∧ ∀ (k : Nat), g'.snd.fst < k → k < g'.fst → canH x g'.snd.snd g'.snd.fst k = false) ∧ (opF x).k - g'.fst < (opF x).k - g_2.fst ∧ True ∧ ((True ∧ (↑g_2.fst : Int) + (1 : Int) = (↑g'.fst : Int)) ∧ True) ∧ True)) ∧ (decide ((↑g_2.fst : Int) < (↑(opF x_1).k : Int)) = false → inRange IntKind.i64 ((↑g_1.fst : Int) + (1 : Int)) ∧ ∃ (g' : Nat × Nat), ((↑g : Int) = (↑g'.snd : Int) ∧ g'.fst ≤ (opF x).k ∧ ∀ (i : Nat), i < g'.fst → ∀ (k : Nat), i < k → k < (opF x).k → canH x g'.snd i k = false) ∧ (opF x).k - g'.fst < (opF x).k - g_1.fst ∧ True ∧ ((True ∧ (↑g_1.fst : Int) + (1 : Int) = (↑g'.fst : Int)) ∧ True) ∧ True)) ∧ (decide ((↑g_1.fst : Int) < (↑(opF x_1).k : Int)) = false → inRange IntKind.i64 ((↑g : Int) + (1 : Int)) ∧ ∃ (g' : Nat), (g' ≤ (opF x).hE + (1 : Nat) ∧ ∀ (h : Nat), h < g' → ∀ (i : Nat), i < (opF x).k → ∀ (k : Nat), i < k → k < (opF x).k → canH x h i k = false) ∧ (opF x).hE + (1 : Nat) - g' < (opF x).hE + (1 : Nat) - g ∧ True ∧ ((True ∧ (↑g : Int) + (1 : Int) = (↑g' : Int)) ∧ True) ∧ True)) ∧ (decide ((↑g : Int) < (↑(opF x_1).hE : Int) + (1 : Int)) = false → (True ∧ ((True ∧ True ∧ (0 : Int) = oH (canO x)) ∧ True ∧ (0 : Int) = oI (canO x)) ∧ True ∧ (0 : Int) = oK (canO x)) ∧ (True ∧ (4 : Int) = canE x) ∧ True))) (by kernel_rfl) ?_
 simp only [flq, true_and, and_true, inR, Prod.exists, Prod.forall, and_assoc, exists_and_left, exists_eq_left', exists_eq_left, forall_eq, exists_const, forall_const, loopN, loopM, fa2, fas, fas2, dup1, dup2, dup3, dup4, ite_true, exhs, exhn, exhz, exho, exA, ex1, ex2, ex3, ex4, ex5, beqI, bneI, decide_true, Bool.true_and, decide_eq_true_eq, decide_eq_false_iff_not, ne_eq, Decidable.not_not]
 simp only [Int.toNat_natCast]
 obtain ⟨w1, w2, w3⟩ := h
 refine exF ⟨w1, w2, w3, fun e => ?_, fun e => ?_⟩
 · obtain ⟨hc, e20⟩ := not_chk e
   have eO : canO x = none := if_neg hc
   have eE : canE x = 20 := if_neg hc
   rw [eO, eE, e20]
   exact ⟨rfl, rfl, rfl, rfl⟩
 · have hc := chk_of e
   rw [opF_eq hc]
   obtain ⟨s1, s2, s3, s4, s5, s6, s7⟩ := chk_size hc
   have eO : canO x = firstP (x.hE + 1) x.k (canH x) := if_pos hc
   have eE : canE x = oE (canO x) := if_pos hc
   refine ⟨by omega, by omega, by omega, fun _ h => by omega, fun g ⟨hg, hG⟩ => ⟨fun hlt => ⟨by omega, fun _ h => by omega, fun a b ⟨hb, ha, hA⟩ => ?_⟩, fun hge => ?_⟩⟩
   · obtain rfl : g = b := by omega
     refine ⟨fun halt => ⟨by omega, by omega, by omega, by omega, fun k h1 h2 => by omega, fun k a' b' ⟨hb', ha', hk1, hk2, hK⟩ => ?_⟩, fun hage => ⟨by omega, by omega, by omega, fun h hh i hi k hik hk => ?_, by omega⟩⟩
     · obtain rfl : g = b' := by omega
       obtain rfl : a = a' := by omega
       refine ⟨fun hk => ?_, fun hk => ⟨by omega, by omega, by omega, fun i hi k' h1 h2 => ?_, by omega⟩⟩
       · have next : canH x g a k = false → -9223372036854775808 ≤ (k : Int) + 1 ∧ (k : Int) + 1 ≤ 9223372036854775807 ∧ a < k + 1 ∧ k + 1 ≤ x.k ∧ (∀ k', a < k' → k' < k + 1 → canH x g a k' = false) ∧ x.k - (k + 1) < x.k - k := fun hf => ⟨by omega, by omega, by omega, by omega, fun k' h1 h2 => by
           by_cases c : k' = k
           · rw [c]; exact hf
           · exact hK k' h1 (by omega), by omega⟩
         have ly : ∀ j : Nat, j < x.k → lyB x j g = within g (x.net j 4) (x.net j 5) := fun j hj => by
           unfold lyB
           rw [Int.toNat_natCast, show within (j : Int) 0 ((x.k : Int) - 1) = true from Nm.within_iff.2 (by omega)]; rfl
         have eH : canH x g a k = (within g (x.net a 4) (x.net a 5) && within g (x.net k 4) (x.net k 5) && canP ⟨x, a, k, g⟩) := by
           unfold canH; rw [ly a (by omega), ly k (by omega)]
         refine exF ⟨w1, w2, w3, by omega, by omega, exNet ⟨fun l1 => exF ⟨w1, w2, w3, by omega, by omega, exNet ⟨fun l2 => ⟨⟨x, a, k, g⟩, rfl, fun _ _ => ⟨rfl, rfl⟩, rfl, fun _ _ => ⟨rfl, rfl⟩, rfl, rfl, fun _ _ => ⟨rfl, rfl, rfl, rfl, rfl, rfl, rfl, rfl, rfl, rfl⟩, rfl, rfl, rfl, chkW_of hc, w1, w2, w3, by show a < x.k; omega, by show k < x.k; omega, by show (0 : Int) ≤ (g : Int); omega, by show (g : Int) ≤ 24; omega, fun hp => ?_, fun hp => next ?_⟩, fun l2 => next ?_⟩⟩, fun l1 => next ?_⟩⟩
         · have hf : canO x = some (g, a, k) := by
             rw [eO]
             exact firstP_some (by omega) (by omega) (by omega) (by omega) (by rw [eH, l1, l2, hp]; rfl) hG hA hK
           rw [eE, hf]
           exact ⟨rfl, rfl, rfl, rfl⟩
         · rw [eH, hp]; simp
         · rw [eH, l2]; simp
         · rw [eH, l1]; simp
       · by_cases c : i = a
         · subst c; exact hK k' h1 (by omega)
         · exact hA i (by omega) k' h1 h2
     · by_cases c : h = g
       · subst c; exact hA i (by omega) k hik hk
       · exact hG h (by omega) i hi k hik hk
   · have hn : canO x = none := by
       rw [eO]
       exact firstP_none.2 fun h hh i hi k hk hik => hG h (by omega) i hi k hik hk
     rw [eE, hn]
     exact ⟨rfl, rfl, rfl, rfl⟩
end Go.Proofs.YtcfmdhlohahhcaaDoor
namespace Go.Proofs.YtcfmdhlohahhcaaDoor
open Go Go.Sx Nm
set_option maxRecDepth 100000
end Go.Proofs.YtcfmdhlohahhcaaDoor
namespace Nm
open Go Go.Sx
structure Truth where
 nE : Nat
 e : Nat → Int
 nN : Nat
 n : Nat → Int
 nSE : Nat
 se : Nat → Int
 nSN : Nat
 sn : Nat → Int
def Truth.wf (t : Truth) : Prop := t.nE < 4611686018427387904 ∧ t.nN < 4611686018427387904 ∧ t.nSE < 4611686018427387904 ∧ t.nSN < 4611686018427387904
def intsCV (n : Nat) (f : Nat → Int) : CV := .vs 1 n (fun i _ => .int .i64 (f i))
def truthTV (t : Truth) : TV := .a 4 (ofList [intsCV t.nE t.e, intsCV t.nN t.n, intsCV t.nSE t.se, intsCV t.nSN t.sn])
def tellI (i : Nat) (v lo hi : Nat → Int) : Bool := allB i (fun j => within (v j) (lo j) (hi j))
def tn (t : Truth) : Nat → Nat | 0 => t.nE | 1 => t.nN | 2 => t.nSE | _ => t.nSN
def tv (t : Truth) : Nat → Nat → Int | 0 => t.e | 1 => t.n | 2 => t.se | _ => t.sn
def tl (x : Fleet) : Nat → Nat → Int | 0 => fun j => x.e j 0 | 1 => fun j => x.n j 0 | 2 => fun j => x.net j 6 | _ => fun j => x.net j 8
def th (x : Fleet) : Nat → Nat → Int | 0 => fun j => x.e j 1 | 1 => fun j => x.n j 1 | 2 => fun j => x.net j 7 | _ => fun j => x.net j 9
def tm (x : Fleet) : Nat → Nat | 0 => x.hE | 1 => x.hE | 2 => x.k | _ => x.k
def tellB (x : Fleet) (t : Truth) (c i : Nat) : Bool := decide ((tn t c : Int) = (tm x c : Int)) && tellI i (tv t c) (tl x c) (th x c)
def tells (x : Fleet) (t : Truth) (c : Nat) : Bool := tellB x t c (tm x c)
def trOk (x : Fleet) (t : Truth) : Bool := tells x t 0 && tells x t 2 && (tells x t 1 && tells x t 3)
def ntT (x : Fleet) (t : Truth) (g : Nat) (i j : Nat) : Int := if 1 ≤ g ∧ (j = 6 ∨ j = 7) then t.se i else if 2 ≤ g ∧ (j = 8 ∨ j = 9) then t.sn i else x.net i j
def ntS (x : Fleet) (t : Truth) (off : Nat) (m i j : Nat) : Int := if i < m ∧ (j = 6 + 2 * off ∨ j = 7 + 2 * off) then tv t (2 + off) i else ntT x t off i j
def trF (x : Fleet) (t : Truth) : Fleet := ⟨x.hE, fun i _ => t.e i, x.hE, fun i _ => t.n i, x.gap, x.k, ntT x t 2⟩
def trR (x : Fleet) (t : Truth) : Fleet := if Nm.chk x then (if trOk x t then trF x t else x) else ⟨0, x.e, 0, x.n, 0, 0, x.net⟩
def trE (x : Fleet) (t : Truth) : Int := if Nm.chk x then (if trOk x t then 0 else 21) else 20
def lE (x : Fleet) (g : Nat) : Nat := if g = 0 then 0 else x.hE
def lN (x : Fleet) (g : Nat) : Nat := if g ≤ 1 then 0 else x.hE
theorem tell_step {x : Fleet} {t : Truth} {c a : Nat} (h : tellB x t c a = true) : within (tv t c a) (tl x c a) (th x c a) = tellB x t c (a + 1) := by
 unfold tellB tellI at h ⊢
 rw [Bool.and_eq_true] at h
 rw [h.1, allB, h.2]; rfl
theorem tell_n {x : Fleet} {t : Truth} {c a : Nat} (h : tellB x t c a = true) : tn t c = tm x c := by
 unfold tellB at h
 rw [Bool.and_eq_true, decide_eq_true_eq] at h
 omega
theorem tell_0 {x : Fleet} {t : Truth} {c : Nat} : decide ((tn t c : Int) = (tm x c : Int)) = tellB x t c 0 := by
 unfold tellB tellI allB
 rw [Bool.and_true]
theorem tell_false {x : Fleet} {t : Truth} {c a : Nat} (h : tellB x t c a = false) (ha : a ≤ tm x c) : tellB x t c a = tells x t c := by
 rw [h]
 symm
 cases hs : tells x t c with
 | false => rfl
 | true =>
   have h' : tellB x t c (tm x c) = true := hs
   unfold tellB tellI at h h'
   rw [Bool.and_eq_true] at h'
   rw [h'.1, allB_iff.2 (fun i hi => allB_iff.1 h'.2 i (by omega))] at h
   cases h
theorem tell_end {x : Fleet} {t : Truth} {c a : Nat} (ha : a = tm x c) : tellB x t c a = tells x t c := by rw [ha]; rfl
theorem trOk_of {x : Fleet} {t : Truth} (h0 : tells x t 0 = true) (h2 : tells x t 2 = true) (h1 : tells x t 1 = true) (h3 : tells x t 3 = true) : trOk x t = true := by unfold trOk; rw [h0, h1, h2, h3]; rfl
theorem trOk_no {x : Fleet} {t : Truth} {c : Nat} (hc : c < 4) (h : (!tells x t c) = true) : trOk x t = false := by
 rw [Bool.not_eq_true'] at h
 unfold trOk
 match c, hc with
 | 0, _ => rw [h]; simp
 | 1, _ => rw [h]; simp
 | 2, _ => rw [h]; simp
 | 3, _ => rw [h]; simp
theorem tells_n {x : Fleet} {t : Truth} {c : Nat} (h : tells x t c = true) : tn t c = tm x c := tell_n h
theorem ntS_0 {x : Fleet} {t : Truth} {off i j : Nat} : ntS x t off 0 i j = ntT x t off i j := by unfold ntS; rw [if_neg (by omega)]
theorem ntS_end {x : Fleet} {t : Truth} {off m i j : Nat} (ho : off ≤ 1) (hi : i < m) : ntS x t off m i j = ntT x t (off + 1) i j := by
 unfold ntS
 match off, ho with
 | 0, _ =>
   unfold ntT
   simp only [hi, true_and, tv]
   by_cases h : j = 6 ∨ j = 7 <;> simp [h]
 | 1, _ =>
   unfold ntT
   simp only [hi, true_and, tv]
   by_cases h : j = 8 ∨ j = 9
   · simp only [h, if_true]
     have : ¬ (j = 6 ∨ j = 7) := by omega
     simp [this]
   · simp [h]
theorem ntS_step {x : Fleet} {t : Truth} {off m i j : Nat} (hj : ¬ (j = 6 + 2 * off ∨ j = 7 + 2 * off)) : (if i = m then ntS x t off m m j else ntS x t off m i j) = ntS x t off (m + 1) i j := by
 unfold ntS
 simp only [hj, and_false, if_false]
 split
 · rename_i e; rw [e]
 · rfl
theorem ntS_set {x : Fleet} {t : Truth} {off m i j : Nat} (hj : j = 6 + 2 * off ∨ j = 7 + 2 * off) : (if i = m then tv t (2 + off) m else ntS x t off m i j) = ntS x t off (m + 1) i j := by
 unfold ntS
 simp only [hj, and_true]
 by_cases e : i = m
 · subst e; rw [if_pos rfl, if_pos (by omega)]
 · rw [if_neg e]
   by_cases h : i < m
   · rw [if_pos h, if_pos (by omega)]
   · rw [if_neg h, if_neg (by omega)]
end Nm
