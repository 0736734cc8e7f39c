/- Texts for the law of the last part, part 13. -/
import Derived.Test.YtcfmdhlohahhcaaDoorKnownP12
set_option linter.unusedSimpArgs false
set_option linter.unusedVariables false
namespace Go.Proofs.YtcfmdhlohahhcaaDoor
open Go Go.Sx Nm
set_option maxRecDepth 100000
theorem trF_chk {x : Fleet} {t : Truth} (hc : Nm.chk x = true) (ht : trOk x t = true) : Nm.chk (trF x t) = true := by
 obtain ⟨c0, ch, cn⟩ := chk_parts hc
 obtain ⟨s1, s2, s3, s4, s5, s6, s7⟩ := chk_size hc
 unfold trOk tells tellB tellI at ht
 simp only [Bool.and_eq_true, decide_eq_true_eq, allB_iff] at ht
 obtain ⟨⟨⟨_, t0⟩, _, t2⟩, ⟨_, t1⟩, _, t3⟩ := ht
 unfold Nm.chk
 rw [Bool.and_eq_true, Bool.and_eq_true, allB_iff, allB_iff]
 refine ⟨⟨?_, fun i hi => ?_⟩, fun i hi => ?_⟩
 · show (within (x.hE : Int) 1 24 && decide ((x.hE : Int) = x.hE) && within x.gap 0 500 && within (x.k : Int) 1 6) = true
   simp only [Bool.and_eq_true, decide_eq_true_eq, Nm.within_iff]
   refine ⟨⟨⟨?_, ?_⟩, ?_⟩, ?_⟩ <;> first | trivial | omega
 · have q := chk_hour hc hi
   have a0 := Nm.within_iff.1 (t0 i hi)
   have a1 := Nm.within_iff.1 (t1 i hi)
   simp only [tv, tl, th] at a0 a1
   show (spanned (t.e i) (t.e i) (-200) 200 && spanned (t.n i) (t.n i) (-200) 200) = true
   simp only [spanned, Bool.and_eq_true, decide_eq_true_eq]
   omega
 · have q := chk_net hc hi
   have a0 := Nm.within_iff.1 (t2 i hi)
   have a1 := Nm.within_iff.1 (t3 i hi)
   simp only [tv, tl, th] at a0 a1
   show netOk x.hE (ntT x t 2 i) = true
   have e : ∀ j, j < 6 → ntT x t 2 i j = x.net i j := fun j hj => by unfold ntT; rw [if_neg (by omega), if_neg (by omega)]
   have e6 : ntT x t 2 i 6 = t.se i := rfl
   have e7 : ntT x t 2 i 7 = t.se i := rfl
   have e8 : ntT x t 2 i 8 = t.sn i := rfl
   have e9 : ntT x t 2 i 9 = t.sn i := rfl
   unfold netOk net1 net2 net3 spanned
   simp only [e 0 (by omega), e 1 (by omega), e 2 (by omega), e 3 (by omega), e 4 (by omega), e 5 (by omega), e6, e7, e8, e9, Bool.and_eq_true, decide_eq_true_eq, Nm.within_iff]
   omega
theorem trF_net {x : Fleet} {t : Truth} {i j : Nat} (hj : j < 6) : (trF x t).net i j = x.net i j := by
 show ntT x t 2 i j = x.net i j
 unfold ntT; rw [if_neg (by omega), if_neg (by omega)]
def liP (x : Fleet) (v s : Nat → Int) (b k : Nat) (h : Int) : Int := x.net k b + s k * (h - x.net k 4) + sumN (fun j => v ((x.net k 4).toNat + j)) (h - x.net k 4).toNat
def liErr (x : Fleet) (t : Truth) (k h : Int) : Int := if Nm.chk x then (if trOk x t then (if lyB x k h then 0 else 22) else 21) else 20
def liR (x : Fleet) (t : Truth) (k h : Int) (z : Int) : Int := if liErr x t k h = 0 then z else 0
theorem plc_E {x : Fleet} {t : Truth} {k : Nat} {h : Int} : plc (trF x t) (trF x t).e 0 k h = liP x t.e t.se 0 k h := by
 unfold plc liP sumF
 rw [trF_net (j := 0) (by omega), trF_net (j := 4) (by omega)]
 rfl
theorem plc_N {x : Fleet} {t : Truth} {k : Nat} {h : Int} : plc (trF x t) (trF x t).n 1 k h = liP x t.n t.sn 1 k h := by
 unfold plc liP sumF
 rw [trF_net (j := 1) (by omega), trF_net (j := 4) (by omega)]
 rfl
theorem exT {t : Truth} {R : Truth → Prop} (h : R t) : ∃ a : Truth, t.nE = a.nE ∧ (∀ i, i < t.nE → t.e i = a.e i) ∧ t.nN = a.nN ∧ (∀ i, i < t.nN → t.n i = a.n i) ∧ t.nSE = a.nSE ∧ (∀ i, i < t.nSE → t.se i = a.se i) ∧ t.nSN = a.nSN ∧ (∀ i, i < t.nSN → t.sn i = a.sn i) ∧ R a :=
 ⟨t, rfl, fun _ _ => rfl, rfl, fun _ _ => rfl, rfl, fun _ _ => rfl, rfl, fun _ _ => rfl, h⟩
theorem tr_ok {x : Fleet} {t : Truth} (e : trE x t = 0) : Nm.chk x = true ∧ trOk x t = true ∧ trR x t = trF x t := by
 unfold trE at e
 by_cases hc : Nm.chk x = true
 · rw [if_pos hc] at e
   by_cases ht : trOk x t = true
   · exact ⟨hc, ht, by unfold trR; rw [if_pos hc, if_pos ht]⟩
   · rw [if_neg ht] at e; cases e
 · rw [if_neg hc] at e; cases e
theorem tr_no {x : Fleet} {t : Truth} (e : ¬ trE x t = 0) (k h : Int) : liErr x t k h = trE x t ∧ ¬ (Nm.chk x = true ∧ trOk x t = true) := by
 unfold trE at e
 unfold liErr trE
 by_cases hc : Nm.chk x = true
 · rw [if_pos hc] at e
   by_cases ht : trOk x t = true
   · rw [if_pos ht] at e; exact absurd rfl e
   · rw [if_pos hc, if_neg ht, if_pos hc, if_neg ht]
     exact ⟨rfl, fun h => ht h.2⟩
 · rw [if_neg hc, if_neg hc]
   exact ⟨rfl, fun h => hc h.1⟩
end Go.Proofs.YtcfmdhlohahhcaaDoor
namespace Go.Proofs.YtcfmdhlohahhcaaDoor
open Go Go.Sx Nm
set_option maxRecDepth 100000
structure LAsk where
 x : Fleet
 t : Truth
 k : Int
 h : Int
def sLies : Sig := ⟨LAsk, fun a => [fleetTV a.x, truthTV a.t, intC a.k, intC a.h], fun a => a.x.wf ∧ a.t.wf, fun a => [.v (spanTV (liR a.x a.t a.k a.h (liP a.x a.t.e a.t.se 0 a.k.toNat a.h)) (liR a.x a.t a.k a.h (liP a.x a.t.n a.t.sn 1 a.k.toNat a.h))), .v (intC (liErr a.x a.t a.k a.h))]⟩
theorem q15 (a : sLies.α) (ha : sLies.pre a) : CallQ Tryd.prog E0 15 (sLies.arg a) (sLies.res a) := by
 obtain ⟨x, t, k, h⟩ := a
 refine bare_say E0_ok [(57, sPl), (53, sTruly), (127, sTdN), (123, sTdE), (126, sSl 8), (122, sSl 6), (125, sLg 1), (120, sLg 0), (124, sAt 1), (119, sAt 0), (121, sLong), (56, sLie), (55, sNet), (54, sIn)] (show SigsOk Tryd.prog E0 [(57, sPl), (53, sTruly), (127, sTdN), (123, sTdE), (126, sSl 8), (122, sSl 6), (125, sLg 1), (120, sLg 0), (124, sAt 1), (119, sAt 0), (121, sLong), (56, sLie), (55, sNet), (54, sIn)] from ((((((((((((((SigsOk.nil.cons u54 fun x _ => q54 x).cons u55 q55).cons u56 fun x _ => q56 x).cons u121 fun x _ => q121 x).cons u119 fun x _ => q119 x).cons u124 fun x _ => q124 x).cons u120 fun x _ => q120 x).cons u125 fun x _ => q125 x).cons u122 fun x _ => q122 x).cons u126 fun x _ => q126 x).cons u123 q123).cons u127 q127).cons u53 q53).cons u57 q57)) [] EvensOk.nil runs { o := [(15, 7, oT [(8, [11])])] } (fuel := 8) ?_
 refine of_red (q := ∃ (x_1 : Fleet × Truth), ((True∧flq x x_1.fst)∧(True∧(((True∧True∧True∧t.nE = x_1.snd.nE∧∀ (i : Nat), i < t.nE→True∧t.e i = x_1.snd.e i)∧True∧True∧t.nN = x_1.snd.nN∧∀ (i : Nat), i < t.nN→True∧t.n i = x_1.snd.n i)∧True∧True∧t.nSE = x_1.snd.nSE∧∀ (i : Nat), i < t.nSE→True∧t.se i = x_1.snd.se i)∧True∧True∧t.nSN = x_1.snd.nSN∧∀ (i : Nat), i < t.nSN→True∧t.sn i = x_1.snd.sn i)∧True)∧((x_1.fst.hE < (4611686018427387904 : Nat)∧x_1.fst.hN < (4611686018427387904 : Nat)∧x_1.fst.k < (4611686018427387904 : Nat))∧x_1.snd.nE < (4611686018427387904 : Nat)∧x_1.snd.nN < (4611686018427387904 : Nat)∧x_1.snd.nSE < (4611686018427387904 : Nat)∧x_1.snd.nSN < (4611686018427387904 : Nat))∧((trE x_1.fst x_1.snd != (0 : Int)) = true→(True∧(True∧True∧(0 : Int) = liR x t k h (liP x t.e t.se (0 : Nat) k.toNat h))∧True∧(0 : Int) = liR x t k h (liP x t.n t.sn (1 : Nat) k.toNat h))∧(True∧trE x_1.fst x_1.snd = liErr x t k h)∧True)∧((trE x_1.fst x_1.snd != (0 : Int)) = false→inRange IntKind.i64 ((↑(trR x_1.fst x_1.snd).k : Int) - (1 : Int))∧∃ (x_2 : Int × Int × Int), ((True∧k = x_2.fst)∧(True∧(0 : Int) = x_2.snd.fst)∧(True∧(↑(trR x_1.fst x_1.snd).k : Int) - (1 : Int) = x_2.snd.snd)∧True)∧True∧((!within x_2.fst x_2.snd.fst x_2.snd.snd) = true→(True∧(True∧True∧(0 : Int) = liR x t k h (liP x t.e t.se (0 : Nat) k.toNat h))∧True∧(0 : Int) = liR x t k h (liP x t.n t.sn (1 : Nat) k.toNat h))∧(True∧(22 : Int) = liErr x t k h)∧True)∧((!within x_2.fst x_2.snd.fst x_2.snd.snd) = false→∃ (x_3 : Fleet × Int), ((True∧(((True∧True∧True∧(trR x_1.fst x_1.snd).hE = x_3.fst.hE∧∀ (i : Nat), i < (trR x_1.fst x_1.snd).hE→(True∧(trR x_1.fst x_1.snd).e i 0 = x_3.fst.e i 0)∧(trR x_1.fst x_1.snd).e i 1 = x_3.fst.e i 1)∧True∧True∧(trR x_1.fst x_1.snd).hN = x_3.fst.hN∧∀ (i : Nat), i < (trR x_1.fst x_1.snd).hN→(True∧(trR x_1.fst x_1.snd).n i 0 = x_3.fst.n i 0)∧(trR x_1.fst x_1.snd).n i 1 = x_3.fst.n i 1)∧True∧(trR x_1.fst x_1.snd).gap = x_3.fst.gap)∧True∧True∧(trR x_1.fst x_1.snd).k = x_3.fst.k∧∀ (i : Nat), i < (trR x_1.fst x_1.snd).k→(((((((((True∧(trR x_1.fst x_1.snd).net i 0 = x_3.fst.net i 0)∧(trR x_1.fst x_1.snd).net i 1 = x_3.fst.net i 1)∧(trR x_1.fst x_1.snd).net i 2 = x_3.fst.net i 2)∧(trR x_1.fst x_1.snd).net i 3 = x_3.fst.net i 3)∧(trR x_1.fst x_1.snd).net i 4 = x_3.fst.net i 4)∧(trR x_1.fst x_1.snd).net i 5 = x_3.fst.net i 5)∧(trR x_1.fst x_1.snd).net i 6 = x_3.fst.net i 6)∧(trR x_1.fst x_1.snd).net i 7 = x_3.fst.net i 7)∧(trR x_1.fst x_1.snd).net i 8 = x_3.fst.net i 8)∧(trR x_1.fst x_1.snd).net i 9 = x_3.fst.net i 9)∧(True∧k = x_3.snd)∧True)∧((x_3.fst.hE < (4611686018427387904 : Nat)∧x_3.fst.hN < (4611686018427387904 : Nat)∧x_3.fst.k < (4611686018427387904 : Nat))∧(0 : Int)≤x_3.snd∧x_3.snd < (↑x_3.fst.k : Int))∧∃ (x_4 : (Nat→Int) × Int), ((True∧(((((((((True∧True∧x_3.fst.net x_3.snd.toNat 0 = x_4.fst 0)∧True∧x_3.fst.net x_3.snd.toNat 1 = x_4.fst 1)∧True∧x_3.fst.net x_3.snd.toNat 2 = x_4.fst 2)∧True∧x_3.fst.net x_3.snd.toNat 3 = x_4.fst 3)∧True∧x_3.fst.net x_3.snd.toNat 4 = x_4.fst 4)∧True∧x_3.fst.net x_3.snd.toNat 5 = x_4.fst 5)∧True∧x_3.fst.net x_3.snd.toNat 6 = x_4.fst 6)∧True∧x_3.fst.net x_3.snd.toNat 7 = x_4.fst 7)∧True∧x_3.fst.net x_3.snd.toNat 8 = x_4.fst 8)∧True∧x_3.fst.net x_3.snd.toNat 9 = x_4.fst 9)∧(True∧h = x_4.snd)∧True)∧True∧((!within x_4.snd (x_4.fst (4 : Nat)) (x_4.fst (5 : Nat))) = true→(True∧(True∧True∧(0 : Int) = liR x t k h (liP x t.e t.se (0 : Nat) k.toNat h))∧True∧(0 : Int) = liR x t k h (liP x t.n t.sn (1 : Nat) k.toNat h))∧(True∧(22 : Int) = liErr x t k h)∧True)∧((!within x_4.snd (x_4.fst (4 : Nat)) (x_4.fst (5 : Nat))) = false→∃ (x_5 : PlAsk × Nat), ((True∧(((True∧True∧True∧(trR x_1.fst x_1.snd).hE = x_5.fst.x.hE∧∀ (i : Nat), i < (trR x_1.fst x_1.snd).hE→(True∧(trR x_1.fst x_1.snd).e i 0 = x_5.fst.x.e i 0)∧(trR x_1.fst x_1.snd).e i 1 = x_5.fst.x.e i 1)∧True∧True∧(trR x_1.fst x_1.snd).hN = x_5.fst.x.hN∧∀ (i : Nat), i < (trR x_1.fst x_1.snd).hN→(True∧(trR x_1.fst x_1.snd).n i 0 = x_5.fst.x.n i 0)∧(trR x_1.fst x_1.snd).n i 1 = x_5.fst.x.n i 1)∧True∧(trR x_1.fst x_1.snd).gap = x_5.fst.x.gap)∧True∧True∧(trR x_1.fst x_1.snd).k = x_5.fst.x.k∧∀ (i : Nat), i < (trR x_1.fst x_1.snd).k→(((((((((True∧(trR x_1.fst x_1.snd).net i 0 = x_5.fst.x.net i 0)∧(trR x_1.fst x_1.snd).net i 1 = x_5.fst.x.net i 1)∧(trR x_1.fst x_1.snd).net i 2 = x_5.fst.x.net i 2)∧(trR x_1.fst x_1.snd).net i 3 = x_5.fst.x.net i 3)∧(trR x_1.fst x_1.snd).net i 4 = x_5.fst.x.net i 4)∧(trR x_1.fst x_1.snd).net i 5 = x_5.fst.x.net i 5)∧(trR x_1.fst x_1.snd).net i 6 = x_5.fst.x.net i 6)∧(trR x_1.fst x_1.snd).net i 7 = x_5.fst.x.net i 7)∧(trR x_1.fst x_1.snd).net i 8 = x_5.fst.x.net i 8)∧(trR x_1.fst x_1.snd).net i 9 = x_5.fst.x.net i 9)∧(True∧k = (↑x_5.fst.k : Int))∧(True∧h = x_5.fst.h)∧(True∧(((True∧True∧(CV.fn (119 : Nat) [] (fun (x x_6 : Nat) => CV.any) (0 : Nat) fun (x : Nat) => CV.any) = [fnC ((119 : Nat) + (5 : Nat) * x_5.snd), fnC ((120 : Nat) + (5 : Nat) * x_5.snd), fnC ((122 : Nat) + (4 : Nat) * x_5.snd), fnC ((123 : Nat) + (4 : Nat) * x_5.snd)].getD 0 CV.any)∧True∧(CV.fn (120 : Nat) [] (fun (x x_6 : Nat) => CV.any) (0 : Nat) fun (x : Nat) => CV.any) = [fnC ((119 : Nat) + (5 : Nat) * x_5.snd), fnC ((120 : Nat) + (5 : Nat) * x_5.snd), fnC ((122 : Nat) + (4 : Nat) * x_5.snd), fnC ((123 : Nat) + (4 : Nat) * x_5.snd)].getD 1 CV.any)∧True∧(CV.fn (122 : Nat) [] (fun (x x_6 : Nat) => CV.any) (0 : Nat) fun (x : Nat) => CV.any) = [fnC ((119 : Nat) + (5 : Nat) * x_5.snd), fnC ((120 : Nat) + (5 : Nat) * x_5.snd), fnC ((122 : Nat) + (4 : Nat) * x_5.snd), fnC ((123 : Nat) + (4 : Nat) * x_5.snd)].getD 2 CV.any)∧True∧(CV.fn (123 : Nat) [] (fun (x x_6 : Nat) => CV.any) (0 : Nat) fun (x : Nat) => CV.any) = [fnC ((119 : Nat) + (5 : Nat) * x_5.snd), fnC ((120 : Nat) + (5 : Nat) * x_5.snd), fnC ((122 : Nat) + (4 : Nat) * x_5.snd), fnC ((123 : Nat) + (4 : Nat) * x_5.snd)].getD 3 CV.any)∧True)∧((Nm.chk x_5.fst.x = true∧(x_5.fst.x.hE < (4611686018427387904 : Nat)∧x_5.fst.x.hN < (4611686018427387904 : Nat)∧x_5.fst.x.k < (4611686018427387904 : Nat))∧x_5.fst.k < x_5.fst.x.k∧x_5.fst.x.net x_5.fst.k (4 : Nat)≤x_5.fst.h∧x_5.fst.h≤(↑x_5.fst.x.hE : Int))∧x_5.snd≤(1 : Nat))∧∃ (x_6 : PlAsk × Nat), ((True∧(((True∧True∧True∧(trR x_1.fst x_1.snd).hE = x_6.fst.x.hE∧∀ (i : Nat), i < (trR x_1.fst x_1.snd).hE→(True∧(trR x_1.fst x_1.snd).e i 0 = x_6.fst.x.e i 0)∧(trR x_1.fst x_1.snd).e i 1 = x_6.fst.x.e i 1)∧True∧True∧(trR x_1.fst x_1.snd).hN = x_6.fst.x.hN∧∀ (i : Nat), i < (trR x_1.fst x_1.snd).hN→(True∧(trR x_1.fst x_1.snd).n i 0 = x_6.fst.x.n i 0)∧(trR x_1.fst x_1.snd).n i 1 = x_6.fst.x.n i 1)∧True∧(trR x_1.fst x_1.snd).gap = x_6.fst.x.gap)∧True∧True∧(trR x_1.fst x_1.snd).k = x_6.fst.x.k∧∀ (i : Nat), i < (trR x_1.fst x_1.snd).k→(((((((((True∧(trR x_1.fst x_1.snd).net i 0 = x_6.fst.x.net i 0)∧(trR x_1.fst x_1.snd).net i 1 = x_6.fst.x.net i 1)∧(trR x_1.fst x_1.snd).net i 2 = x_6.fst.x.net i 2)∧(trR x_1.fst x_1.snd).net i 3 = x_6.fst.x.net i 3)∧(trR x_1.fst x_1.snd).net i 4 = x_6.fst.x.net i 4)∧(trR x_1.fst x_1.snd).net i 5 = x_6.fst.x.net i 5)∧(trR x_1.fst x_1.snd).net i 6 = x_6.fst.x.net i 6)∧(trR x_1.fst x_1.snd).net i 7 = x_6.fst.x.net i 7)∧(trR x_1.fst x_1.snd).net i 8 = x_6.fst.x.net i 8)∧(trR x_1.fst x_1.snd).net i 9 = x_6.fst.x.net i 9)∧(True∧k = (↑x_6.fst.k : Int))∧(True∧h = x_6.fst.h)∧(True∧(((True∧True∧(CV.fn (124 : Nat) [] (fun (x x_7 : Nat) => CV.any) (0 : Nat) fun (x : Nat) => CV.any) = [fnC ((119 : Nat) + (5 : Nat) * x_6.snd), fnC ((120 : Nat) + (5 : Nat) * x_6.snd), fnC ((122 : Nat) + (4 : Nat) * x_6.snd), fnC ((123 : Nat) + (4 : Nat) * x_6.snd)].getD 0 CV.any)∧True∧(CV.fn (125 : Nat) [] (fun (x x_7 : Nat) => CV.any) (0 : Nat) fun (x : Nat) => CV.any) = [fnC ((119 : Nat) + (5 : Nat) * x_6.snd), fnC ((120 : Nat) + (5 : Nat) * x_6.snd), fnC ((122 : Nat) + (4 : Nat) * x_6.snd), fnC ((123 : Nat) + (4 : Nat) * x_6.snd)].getD 1 CV.any)∧True∧(CV.fn (126 : Nat) [] (fun (x x_7 : Nat) => CV.any) (0 : Nat) fun (x : Nat) => CV.any) = [fnC ((119 : Nat) + (5 : Nat) * x_6.snd), fnC ((120 : Nat) + (5 : Nat) * x_6.snd), fnC ((122 : Nat) + (4 : Nat) * x_6.snd), fnC ((123 : Nat) + (4 : Nat) * x_6.snd)].getD 2 CV.any)∧True∧(CV.fn (127 : Nat) [] (fun (x x_7 : Nat) => CV.any) (0 : Nat) fun (x : Nat) => CV.any) = [fnC ((119 : Nat) + (5 : Nat) * x_6.snd), fnC ((120 : Nat) + (5 : Nat) * x_6.snd), fnC ((122 : Nat) + (4 : Nat) * x_6.snd), fnC ((123 : Nat) + (4 : Nat) * x_6.snd)].getD 3 CV.any)∧True)∧((Nm.chk x_6.fst.x = true∧(x_6.fst.x.hE < (4611686018427387904 : Nat)∧x_6.fst.x.hN < (4611686018427387904 : Nat)∧x_6.fst.x.k < (4611686018427387904 : Nat))∧x_6.fst.k < x_6.fst.x.k∧x_6.fst.x.net x_6.fst.k (4 : Nat)≤x_6.fst.h∧x_6.fst.h≤(↑x_6.fst.x.hE : Int))∧x_6.snd≤(1 : Nat))∧(True∧(True∧True∧plc x_5.fst.x (td x_5.fst.x x_5.snd) x_5.snd x_5.fst.k x_5.fst.h = liR x t k h (liP x t.e t.se (0 : Nat) k.toNat h))∧True∧plc x_6.fst.x (td x_6.fst.x x_6.snd) x_6.snd x_6.fst.k x_6.fst.h = liR x t k h (liP x t.n t.sn (1 : Nat) k.toNat h))∧(True∧(0 : Int) = liErr x t k h)∧True)))) (by kernel_rfl) ?_
 simp only [flq, true_and, and_true, inR, Prod.exists, Prod.forall, and_assoc, exists_and_left, exists_eq_left', exists_eq_left, forall_eq, exists_const, forall_const, loopN, loopM, fa2, fas, fas2, dup1, dup2, dup3, dup4, ite_true, exhs, exhn, exhz, exho, exA, ex1, ex2, ex3, ex4, ex5, beqI, bneI, decide_true, Bool.true_and, decide_eq_true_eq, decide_eq_false_iff_not, ne_eq, Decidable.not_not]
 obtain ⟨⟨w1, w2, w3⟩, v1, v2, v3, v4⟩ := (show x.wf ∧ t.wf from ha)
 have no : liErr x t k h ≠ 0 → ∀ z, 0 = liR x t k h z := fun e z => by unfold liR; rw [if_neg e]
 refine exF (exT ⟨w1, w2, w3, v1, v2, v3, v4, fun e => ?_, fun e => ?_⟩)
 · obtain ⟨e1, _⟩ := tr_no e k h
   have z := no (by rw [e1]; exact e)
   exact ⟨z _, z _, e1.symm⟩
 · obtain ⟨hc, ht, eR⟩ := tr_ok e
   rw [eR]
   obtain ⟨s1, s2, s3, s4, s5, s6, s7⟩ := chk_size hc
   have eK : (trF x t).k = x.k := rfl
   have eH : (trF x t).hE = x.hE := rfl
   have eH' : (trF x t).hN = x.hE := rfl
   have ly : liErr x t k h = if lyB x k h then 0 else 22 := by unfold liErr; rw [if_pos hc, if_pos ht]
   have lyK : lyB x k h = (within k 0 ((x.k : Int) - 1) && within h (x.net k.toNat 4) (x.net k.toNat 5)) := rfl
   have f22 : lyB x k h = false → 0 = liR x t k h (liP x t.e t.se 0 k.toNat h) ∧ 0 = liR x t k h (liP x t.n t.sn 1 k.toNat h) ∧ 22 = liErr x t k h := fun hf => by
     have e2 : liErr x t k h = 22 := by rw [ly, hf]; rfl
     have z := no (by rw [e2]; decide)
     exact ⟨z _, z _, e2.symm⟩
   rw [eK]
   refine ⟨by omega, by omega, fun h1 => f22 ?_, fun h1 => exF ⟨by rw [eH]; omega, by rw [eH']; omega, by rw [eK]; omega, ?_, ?_, exNet ⟨fun h4 => f22 ?_, fun h4 => ?_⟩⟩⟩
   · rw [Bool.not_eq_true'] at h1
     rw [lyK, h1]; rfl
   · rw [Bool.not_eq_false'] at h1
     exact (Nm.within_iff.1 h1).1
   · rw [Bool.not_eq_false'] at h1
     have := Nm.within_iff.1 h1
     rw [eK]; omega
   · rw [trF_net (j := 4) (by omega), trF_net (j := 5) (by omega), Bool.not_eq_true'] at h4
     rw [lyK, h4]; simp
   · rw [trF_net (j := 4) (by omega), trF_net (j := 5) (by omega), Bool.not_eq_false'] at h4
     rw [Bool.not_eq_false'] at h1
     have g1 := Nm.within_iff.1 h1
     have g4 := Nm.within_iff.1 h4
     have e0 : liErr x t k h = 0 := by rw [ly, lyK, h1, h4]; rfl
     have z : ∀ q, liR x t k h q = q := fun q => by unfold liR; rw [if_pos e0]
     obtain ⟨_, _, _, _, ⟨k3, k4⟩, ⟨k5, k6⟩, _⟩ := chk_net hc (i := k.toNat) (by omega)
     have hF := trF_chk hc ht
     have n4 : (trF x t).net k.toNat 4 ≤ h := by rw [trF_net (by omega)]; omega
     simp only [z, e0]
     exact ⟨⟨trF x t, k.toNat, h⟩, rfl, fun _ _ => ⟨rfl, rfl⟩, rfl, fun _ _ => ⟨rfl, rfl⟩, rfl, rfl, fun _ _ => ⟨rfl, rfl, rfl, rfl, rfl, rfl, rfl, rfl, rfl, rfl⟩, by show k = ((k.toNat : Nat) : Int); omega, rfl, 0, rfl, rfl, rfl, rfl, hF, by rw [eH]; omega, by rw [eH']; omega, by rw [eK]; omega, by show k.toNat < x.k; omega, n4, by show h ≤ x.hE; omega, by omega,
       ⟨trF x t, k.toNat, h⟩, rfl, fun _ _ => ⟨rfl, rfl⟩, rfl, fun _ _ => ⟨rfl, rfl⟩, rfl, rfl, fun _ _ => ⟨rfl, rfl, rfl, rfl, rfl, rfl, rfl, rfl, rfl, rfl⟩, by show k = ((k.toNat : Nat) : Int); omega, rfl, 1, rfl, rfl, rfl, rfl, hF, by rw [eH]; omega, by rw [eH']; omega, by rw [eK]; omega, by show k.toNat < x.k; omega, n4, by show h ≤ x.hE; omega, by omega, plc_E, plc_N, trivial⟩
def fouO (x : Fleet) (t : Truth) : Option (Nat × Nat × Nat) := if Nm.chk x = true ∧ trOk x t = true then firstP (x.hE + 1) x.k (canH (trF x t)) else none
def fouE (x : Fleet) (t : Truth) : Int := if trE x t = 0 then oE (fouO x t) else trE x t
def sFouls : Sig := ⟨Fleet × Truth, fun a => [fleetTV a.1, truthTV a.2], fun a => a.1.wf ∧ a.2.wf, fun a => [.v (foulTV (fouO a.1 a.2)), .v (intC (fouE a.1 a.2))]⟩
theorem q19 (a : sFouls.α) (ha : sFouls.pre a) : CallQ Tryd.prog E0 19 (sFouls.arg a) (sFouls.res a) := by
 obtain ⟨x, t⟩ := a
 refine bare_say E0_ok [(53, sTruly), (65, sCanP), (127, sTdN), (123, sTdE), (126, sSl 8), (122, sSl 6), (125, sLg 1), (120, sLg 0), (124, sAt 1), (119, sAt 0), (121, sLong), (56, sLie), (55, sNet)] (show SigsOk Tryd.prog E0 [(53, sTruly), (65, sCanP), (127, sTdN), (123, sTdE), (126, sSl 8), (122, sSl 6), (125, sLg 1), (120, sLg 0), (124, sAt 1), (119, sAt 0), (121, sLong), (56, sLie), (55, sNet)] from (((((((((((((SigsOk.nil.cons u55 q55).cons u56 fun x _ => q56 x).cons u121 fun x _ => q121 x).cons u119 fun x _ => q119 x).cons u124 fun x _ => q124 x).cons u120 fun x _ => q120 x).cons u125 fun x _ => q125 x).cons u122 fun x _ => q122 x).cons u126 fun x _ => q126 x).cons u123 q123).cons u127 q127).cons u65 q65).cons u53 q53)) [] EvensOk.nil runs { l := [(64, 2, aS1 (trR x t) (canH (trR x t))), (100, 1, aS2 (trR x t) (canH (trR x t))), (100, 4, aS3 (trR x t) (canH (trR x t)))] } (fuel := 8) ?_
 refine of_red (q := ∃ (x_1 : Fleet × Truth), ((True∧flq x x_1.fst)∧(True∧(((True∧True∧True∧t.nE = x_1.snd.nE∧∀ (i : Nat), i < t.nE→True∧t.e i = x_1.snd.e i)∧True∧True∧t.nN = x_1.snd.nN∧∀ (i : Nat), i < t.nN→True∧t.n i = x_1.snd.n i)∧True∧True∧t.nSE = x_1.snd.nSE∧∀ (i : Nat), i < t.nSE→True∧t.se i = x_1.snd.se i)∧True∧True∧t.nSN = x_1.snd.nSN∧∀ (i : Nat), i < t.nSN→True∧t.sn i = x_1.snd.sn i)∧True)∧((x_1.fst.hE < (4611686018427387904 : Nat)∧x_1.fst.hN < (4611686018427387904 : Nat)∧x_1.fst.k < (4611686018427387904 : Nat))∧x_1.snd.nE < (4611686018427387904 : Nat)∧x_1.snd.nN < (4611686018427387904 : Nat)∧x_1.snd.nSE < (4611686018427387904 : Nat)∧x_1.snd.nSN < (4611686018427387904 : Nat))∧((trE x_1.fst x_1.snd != (0 : Int)) = true→(True∧((True∧True∧(0 : Int) = oH (fouO x t))∧True∧(0 : Int) = oI (fouO x t))∧True∧(0 : Int) = oK (fouO x t))∧(True∧trE x_1.fst x_1.snd = fouE x t)∧True)∧((trE x_1.fst x_1.snd != (0 : Int)) = false→inRange IntKind.i64 ((↑(trR x_1.fst x_1.snd).hE : Int) + (1 : Int))∧(∃ (g : Nat), (g≤(trR x t).hE + (1 : Nat)∧∀ (h : Nat), h < g→∀ (i : Nat), i < (trR x t).k→∀ (k : Nat), i < k→k < (trR x t).k→canH (trR x t) h i k = false)∧True∧((True∧(0 : Int) = (↑g : Int))∧True)∧True)∧∀ (g : Nat), (g≤(trR x t).hE + (1 : Nat)∧∀ (h : Nat), h < g→∀ (i : Nat), i < (trR x t).k→∀ (k : Nat), i < k→k < (trR x t).k→canH (trR x t) h i k = false)→(decide ((↑g : Int) < (↑(trR x_1.fst x_1.snd).hE : Int) + (1 : Int)) = true→(∃ (g_1 : Nat × Nat), ((↑g : Int) = (↑g_1.snd : Int)∧g_1.fst≤(trR x t).k∧∀ (i : Nat), i < g_1.fst→∀ (k : Nat), i < k→k < (trR x t).k→canH (trR x t) g_1.snd i k = false)∧True∧((True∧(0 : Int) = (↑g_1.fst : Int))∧True)∧True)∧∀ (g_1 : Nat × Nat), ((↑g : Int) = (↑g_1.snd : Int)∧g_1.fst≤(trR x t).k∧∀ (i : Nat), i < g_1.fst→∀ (k : Nat), i < k→k < (trR x t).k→canH (trR x t) g_1.snd i k = false)→(decide ((↑g_1.fst : Int) < (↑(trR x_1.fst x_1.snd).k : Int)) = true→inRange IntKind.i64 ((↑g_1.fst : Int) + (1 : Int))∧(∃ (g_2 : Nat × Nat × Nat), ((↑g : Int) = (↑g_2.snd.snd : Int)∧(↑g_1.fst : Int) = (↑g_2.snd.fst : Int)∧g_2.snd.fst < g_2.fst∧g_2.fst≤(trR x t).k∧∀ (k : Nat), g_2.snd.fst < k→k < g_2.fst→canH (trR x t) g_2.snd.snd g_2.snd.fst k = false)∧True∧((True∧(↑g_1.fst : Int) + (1 : Int) = (↑g_2.fst : Int))∧True)∧True)∧∀ (g_2 : Nat × Nat × Nat), ((↑g : Int) = (↑g_2.snd.snd : Int)∧(↑g_1.fst : Int) = (↑g_2.snd.fst : Int)∧g_2.snd.fst < g_2.fst∧g_2.fst≤(trR x t).k∧∀ (k : Nat), g_2.snd.fst < k→k < g_2.fst→canH (trR x t) g_2.snd.snd g_2.snd.fst k = false)→(decide ((↑g_2.fst : Int) < (↑(trR x_1.fst x_1.snd).k : Int)) = true→∃ (x_2 : Fleet × Int), ((True∧(((True∧True∧True∧(trR x_1.fst x_1.snd).hE = x_2.fst.hE∧∀ (i : Nat), i < (trR x_1.fst x_1.snd).hE→(True∧(trR x_1.fst x_1.snd).e i 0 = x_2.fst.e i 0)∧(trR x_1.fst x_1.snd).e i 1 = x_2.fst.e i 1)∧True∧True∧(trR x_1.fst x_1.snd).hN = x_2.fst.hN∧∀ (i : Nat), i < (trR x_1.fst x_1.snd).hN→(True∧(trR x_1.fst x_1.snd).n i 0 = x_2.fst.n i 0)∧(trR x_1.fst x_1.snd).n i 1 = x_2.fst.n i 1)∧True∧(trR x_1.fst x_1.snd).gap = x_2.fst.gap)∧True∧True∧(trR x_1.fst x_1.snd).k = x_2.fst.k∧∀ (i : Nat), i < (trR x_1.fst x_1.snd).k→(((((((((True∧(trR x_1.fst x_1.snd).net i 0 = x_2.fst.net i 0)∧(trR x_1.fst x_1.snd).net i 1 = x_2.fst.net i 1)∧(trR x_1.fst x_1.snd).net i 2 = x_2.fst.net i 2)∧(trR x_1.fst x_1.snd).net i 3 = x_2.fst.net i 3)∧(trR x_1.fst x_1.snd).net i 4 = x_2.fst.net i 4)∧(trR x_1.fst x_1.snd).net i 5 = x_2.fst.net i 5)∧(trR x_1.fst x_1.snd).net i 6 = x_2.fst.net i 6)∧(trR x_1.fst x_1.snd).net i 7 = x_2.fst.net i 7)∧(trR x_1.fst x_1.snd).net i 8 = x_2.fst.net i 8)∧(trR x_1.fst x_1.snd).net i 9 = x_2.fst.net i 9)∧(True∧(↑g_1.fst : Int) = x_2.snd)∧True)∧((x_2.fst.hE < (4611686018427387904 : Nat)∧x_2.fst.hN < (4611686018427387904 : Nat)∧x_2.fst.k < (4611686018427387904 : Nat))∧(0 : Int)≤x_2.snd∧x_2.snd < (↑x_2.fst.k : Int))∧∃ (x_3 : (Nat→Int) × Int), ((True∧(((((((((True∧True∧x_2.fst.net x_2.snd.toNat 0 = x_3.fst 0)∧True∧x_2.fst.net x_2.snd.toNat 1 = x_3.fst 1)∧True∧x_2.fst.net x_2.snd.toNat 2 = x_3.fst 2)∧True∧x_2.fst.net x_2.snd.toNat 3 = x_3.fst 3)∧True∧x_2.fst.net x_2.snd.toNat 4 = x_3.fst 4)∧True∧x_2.fst.net x_2.snd.toNat 5 = x_3.fst 5)∧True∧x_2.fst.net x_2.snd.toNat 6 = x_3.fst 6)∧True∧x_2.fst.net x_2.snd.toNat 7 = x_3.fst 7)∧True∧x_2.fst.net x_2.snd.toNat 8 = x_3.fst 8)∧True∧x_2.fst.net x_2.snd.toNat 9 = x_3.fst 9)∧(True∧(↑g : Int) = x_3.snd)∧True)∧True∧(within x_3.snd (x_3.fst (4 : Nat)) (x_3.fst (5 : Nat)) = true→∃ (x_4 : Fleet × Int), ((True∧(((True∧True∧True∧(trR x_1.fst x_1.snd).hE = x_4.fst.hE∧∀ (i : Nat), i < (trR x_1.fst x_1.snd).hE→(True∧(trR x_1.fst x_1.snd).e i 0 = x_4.fst.e i 0)∧(trR x_1.fst x_1.snd).e i 1 = x_4.fst.e i 1)∧True∧True∧(trR x_1.fst x_1.snd).hN = x_4.fst.hN∧∀ (i : Nat), i < (trR x_1.fst x_1.snd).hN→(True∧(trR x_1.fst x_1.snd).n i 0 = x_4.fst.n i 0)∧(trR x_1.fst x_1.snd).n i 1 = x_4.fst.n i 1)∧True∧(trR x_1.fst x_1.snd).gap = x_4.fst.gap)∧True∧True∧(trR x_1.fst x_1.snd).k = x_4.fst.k∧∀ (i : Nat), i < (trR x_1.fst x_1.snd).k→(((((((((True∧(trR x_1.fst x_1.snd).net i 0 = x_4.fst.net i 0)∧(trR x_1.fst x_1.snd).net i 1 = x_4.fst.net i 1)∧(trR x_1.fst x_1.snd).net i 2 = x_4.fst.net i 2)∧(trR x_1.fst x_1.snd).net i 3 = x_4.fst.net i 3)∧(trR x_1.fst x_1.snd).net i 4 = x_4.fst.net i 4)∧(trR x_1.fst x_1.snd).net i 5 = x_4.fst.net i 5)∧(trR x_1.fst x_1.snd).net i 6 = x_4.fst.net i 6)∧(trR x_1.fst x_1.snd).net i 7 = x_4.fst.net i 7)∧(trR x_1.fst x_1.snd).net i 8 = x_4.fst.net i 8)∧(trR x_1.fst x_1.snd).net i 9 = x_4.fst.net i 9)∧(True∧(↑g_2.fst : Int) = x_4.snd)∧True)∧((x_4.fst.hE < (4611686018427387904 : Nat)∧x_4.fst.hN < (4611686018427387904 : Nat)∧x_4.fst.k < (4611686018427387904 : Nat))∧(0 : Int)≤x_4.snd∧x_4.snd < (↑x_4.fst.k : Int))∧∃ (x_5 : (Nat→Int) × Int), ((True∧(((((((((True∧True∧x_4.fst.net x_4.snd.toNat 0 = x_5.fst 0)∧True∧x_4.fst.net x_4.snd.toNat 1 = x_5.fst 1)∧True∧x_4.fst.net x_4.snd.toNat 2 = x_5.fst 2)∧True∧x_4.fst.net x_4.snd.toNat 3 = x_5.fst 3)∧True∧x_4.fst.net x_4.snd.toNat 4 = x_5.fst 4)∧True∧x_4.fst.net x_4.snd.toNat 5 = x_5.fst 5)∧True∧x_4.fst.net x_4.snd.toNat 6 = x_5.fst 6)∧True∧x_4.fst.net x_4.snd.toNat 7 = x_5.fst 7)∧True∧x_4.fst.net x_4.snd.toNat 8 = x_5.fst 8)∧True∧x_4.fst.net x_4.snd.toNat 9 = x_5.fst 9)∧(True∧(↑g : Int) = x_5.snd)∧True)∧True∧(within x_5.snd (x_5.fst (4 : Nat)) (x_5.fst (5 : Nat)) = true→∃ (x_6 : Ask), ((True∧(((True∧True∧True∧(trR x_1.fst x_1.snd).hE = x_6.x.hE∧∀ (i : Nat), i < (trR x_1.fst x_1.snd).hE→(True∧(trR x_1.fst x_1.snd).e i 0 = x_6.x.e i 0)∧(trR x_1.fst x_1.snd).e i 1 = x_6.x.e i 1)∧True∧True∧(trR x_1.fst x_1.snd).hN = x_6.x.hN∧∀ (i : Nat), i < (trR x_1.fst x_1.snd).hN→(True∧(trR x_1.fst x_1.snd).n i 0 = x_6.x.n i 0)∧(trR x_1.fst x_1.snd).n i 1 = x_6.x.n i 1)∧True∧(trR x_1.fst x_1.snd).gap = x_6.x.gap)∧True∧True∧(trR x_1.fst x_1.snd).k = x_6.x.k∧∀ (i : Nat), i < (trR x_1.fst x_1.snd).k→(((((((((True∧(trR x_1.fst x_1.snd).net i 0 = x_6.x.net i 0)∧(trR x_1.fst x_1.snd).net i 1 = x_6.x.net i 1)∧(trR x_1.fst x_1.snd).net i 2 = x_6.x.net i 2)∧(trR x_1.fst x_1.snd).net i 3 = x_6.x.net i 3)∧(trR x_1.fst x_1.snd).net i 4 = x_6.x.net i 4)∧(trR x_1.fst x_1.snd).net i 5 = x_6.x.net i 5)∧(trR x_1.fst x_1.snd).net i 6 = x_6.x.net i 6)∧(trR x_1.fst x_1.snd).net i 7 = x_6.x.net i 7)∧(trR x_1.fst x_1.snd).net i 8 = x_6.x.net i 8)∧(trR x_1.fst x_1.snd).net i 9 = x_6.x.net i 9)∧(True∧(True∧True∧(↑g_1.fst : Int) = (↑x_6.i : Int))∧True∧(↑g_2.fst : Int) = (↑x_6.k : Int))∧(True∧(↑g : Int) = x_6.h)∧True)∧(ChkW x_6.x∧(x_6.x.hE < (4611686018427387904 : Nat)∧x_6.x.hN < (4611686018427387904 : Nat)∧x_6.x.k < (4611686018427387904 : Nat))∧x_6.i < x_6.x.k∧x_6.k < x_6.x.k∧(0 : Int)≤x_6.h∧x_6.h≤(24 : Int))∧(canP x_6 = true→(True∧((True∧True∧(↑g : Int) = oH (fouO x t))∧True∧(↑g_1.fst : Int) = oI (fouO x t))∧True∧(↑g_2.fst : Int) = oK (fouO x t))∧(True∧(0 : Int) = fouE x t)∧True)∧(canP x_6 = false→inRange IntKind.i64 ((↑g_2.fst : Int) + (1 : Int))∧∃ (g' : Nat × Nat × Nat), ((↑g : Int) = (↑g'.snd.snd : Int)∧(↑g_1.fst : Int) = (↑g'.snd.fst : Int)∧g'.snd.fst < g'.fst∧g'.fst≤(trR x t).k∧∀ (k : Nat), g'.snd.fst < k→k < g'.fst→canH (trR x t) g'.snd.snd g'.snd.fst k = false)∧(trR x t).k - g'.fst < (trR x t).k - g_2.fst∧True∧((True∧(↑g_2.fst : Int) + (1 : Int) = (↑g'.fst : Int))∧True)∧True))∧(within x_5.snd (x_5.fst (4 : Nat)) (x_5.fst (5 : Nat)) = false→inRange IntKind.i64 ((↑g_2.fst : Int) + (1 : Int))∧∃ (g' : Nat × Nat × Nat), ((↑g : Int) = (↑g'.snd.snd : Int)∧(↑g_1.fst : Int) = (↑g'.snd.fst : Int)∧g'.snd.fst < g'.fst∧g'.fst≤(trR x t).k∧∀ (k : Nat), g'.snd.fst < k→k < g'.fst→canH (trR x t) g'.snd.snd g'.snd.fst k = false)∧(trR x t).k - g'.fst < (trR x t).k - g_2.fst∧True∧((True∧(↑g_2.fst : Int) + (1 : Int) = (↑g'.fst : Int))∧True)∧True))∧(within x_3.snd (x_3.fst (4 : Nat)) (x_3.fst (5 : Nat)) = false→inRange IntKind.i64 ((↑g_2.fst : Int) + (1 : Int))∧∃ (g' : Nat × Nat × Nat), ((↑g : Int) = (↑g'.snd.snd : Int)∧(↑g_1.fst : Int) = (↑g'.snd.fst : Int)∧g'.snd.fst < g'.fst∧g'.fst≤(trR x t).k∧∀ (k : Nat), g'.snd.fst < k→k < g'.fst→canH (trR x t) g'.snd.snd g'.snd.fst k = false)∧(trR x t).k - g'.fst < (trR x t).k - g_2.fst∧True∧((True∧(↑g_2.fst : Int) + (1 : Int) = (↑g'.fst : Int))∧True)∧True))∧(decide ((↑g_2.fst : Int) < (↑(trR x_1.fst x_1.snd).k : Int)) = false→inRange IntKind.i64 ((↑g_1.fst : Int) + (1 : Int))∧∃ (g' : Nat × Nat), ((↑g : Int) = (↑g'.snd : Int)∧g'.fst≤(trR x t).k∧∀ (i : Nat), i < g'.fst→∀ (k : Nat), i < k→k < (trR x t).k→canH (trR x t) g'.snd i k = false)∧(trR x t).k - g'.fst < (trR x t).k - g_1.fst∧True∧((True∧(↑g_1.fst : Int) + (1 : Int) = (↑g'.fst : Int))∧True)∧True))∧(decide ((↑g_1.fst : Int) < (↑(trR x_1.fst x_1.snd).k : Int)) = false→inRange IntKind.i64 ((↑g : Int) + (1 : Int))∧∃ (g' : Nat), (g'≤(trR x t).hE + (1 : Nat)∧∀ (h : Nat), h < g'→∀ (i : Nat), i < (trR x t).k→∀ (k : Nat), i < k→k < (trR x t).k→canH (trR x t) h i k = false)∧(trR x t).hE + (1 : Nat) - g' < (trR x t).hE + (1 : Nat) - g∧True∧((True∧(↑g : Int) + (1 : Int) = (↑g' : Int))∧True)∧True))∧(decide ((↑g : Int) < (↑(trR x_1.fst x_1.snd).hE : Int) + (1 : Int)) = false→(True∧((True∧True∧(0 : Int) = oH (fouO x t))∧True∧(0 : Int) = oI (fouO x t))∧True∧(0 : Int) = oK (fouO x t))∧(True∧(4 : Int) = fouE x t)∧True))) (by kernel_rfl) ?_
 simp only [flq, true_and, and_true, inR, Prod.exists, Prod.forall, and_assoc, exists_and_left, exists_eq_left', exists_eq_left, forall_eq, exists_const, forall_const, loopN, loopM, fa2, fas, fas2, dup1, dup2, dup3, dup4, ite_true, exhs, exhn, exhz, exho, exA, ex1, ex2, ex3, ex4, ex5, beqI, bneI, decide_true, Bool.true_and, decide_eq_true_eq, decide_eq_false_iff_not, ne_eq, Decidable.not_not]
 simp only [Int.toNat_natCast]
 obtain ⟨⟨w1, w2, w3⟩, v1, v2, v3, v4⟩ := (show x.wf ∧ t.wf from ha)
 refine exF (exT ⟨w1, w2, w3, v1, v2, v3, v4, fun e => ?_, fun e => ?_⟩)
 · have eO : fouO x t = none := if_neg (tr_no e 0 0).2
   have eE : fouE x t = trE x t := if_neg e
   rw [eO, eE]
   exact ⟨rfl, rfl, rfl, rfl⟩
 · obtain ⟨hc0, ht, eR⟩ := tr_ok e
   rw [eR]
   have eO' : fouO x t = firstP ((trF x t).hE + 1) (trF x t).k (canH (trF x t)) := if_pos ⟨hc0, ht⟩
   have eE : fouE x t = oE (fouO x t) := if_pos e
   have hc' := trF_chk hc0 ht
   generalize trF x t = y at eO' hc' ⊢
   have eO := eO'
   have hc := hc'
   obtain ⟨s1, s2, s3, s4, s5, s6, s7⟩ := chk_size hc
   have w1 : y.hE < 4611686018427387904 := by omega
   have w2 : y.hN < 4611686018427387904 := by omega
   have w3 : y.k < 4611686018427387904 := by omega
   refine ⟨by omega, by omega, by omega, fun _ h => by omega, fun g ⟨hg, hG⟩ => ⟨fun hlt => ⟨by omega, fun _ h => by omega, fun a b ⟨hb, ha, hA⟩ => ?_⟩, fun hge => ?_⟩⟩
   · obtain rfl : g = b := by omega
     refine ⟨fun halt => ⟨by omega, by omega, by omega, by omega, fun k h1 h2 => by omega, fun k a' b' ⟨hb', ha', hk1, hk2, hK⟩ => ?_⟩, fun hage => ⟨by omega, by omega, by omega, fun h hh i hi k hik hk => ?_, by omega⟩⟩
     · obtain rfl : g = b' := by omega
       obtain rfl : a = a' := by omega
       refine ⟨fun hk => ?_, fun hk => ⟨by omega, by omega, by omega, fun i hi k' h1 h2 => ?_, by omega⟩⟩
       · have next : canH y g a k = false → -9223372036854775808 ≤ (k : Int) + 1 ∧ (k : Int) + 1 ≤ 9223372036854775807 ∧ a < k + 1 ∧ k + 1 ≤ y.k ∧ (∀ k', a < k' → k' < k + 1 → canH y g a k' = false) ∧ y.k - (k + 1) < y.k - k := fun hf => ⟨by omega, by omega, by omega, by omega, fun k' h1 h2 => by
           by_cases c : k' = k
           · rw [c]; exact hf
           · exact hK k' h1 (by omega), by omega⟩
         have ly : ∀ j : Nat, j < y.k → lyB y j g = within g (y.net j 4) (y.net j 5) := fun j hj => by
           unfold lyB
           rw [Int.toNat_natCast, show within (j : Int) 0 ((y.k : Int) - 1) = true from Nm.within_iff.2 (by omega)]; rfl
         have eH : canH y g a k = (within g (y.net a 4) (y.net a 5) && within g (y.net k 4) (y.net k 5) && canP ⟨y, a, k, g⟩) := by
           unfold canH; rw [ly a (by omega), ly k (by omega)]
         refine exF ⟨w1, w2, w3, by omega, by omega, exNet ⟨fun l1 => exF ⟨w1, w2, w3, by omega, by omega, exNet ⟨fun l2 => ⟨⟨y, a, k, g⟩, rfl, fun _ _ => ⟨rfl, rfl⟩, rfl, fun _ _ => ⟨rfl, rfl⟩, rfl, rfl, fun _ _ => ⟨rfl, rfl, rfl, rfl, rfl, rfl, rfl, rfl, rfl, rfl⟩, rfl, rfl, rfl, chkW_of hc, w1, w2, w3, by show a < y.k; omega, by show k < y.k; omega, by show (0 : Int) ≤ (g : Int); omega, by show (g : Int) ≤ 24; omega, fun hp => ?_, fun hp => next ?_⟩, fun l2 => next ?_⟩⟩, fun l1 => next ?_⟩⟩
         · have hf : fouO x t = some (g, a, k) := by
             rw [eO]
             exact firstP_some (by omega) (by omega) (by omega) (by omega) (by rw [eH, l1, l2, hp]; rfl) hG hA hK
           rw [eE, hf]
           exact ⟨rfl, rfl, rfl, rfl⟩
         · rw [eH, hp]; simp
         · rw [eH, l2]; simp
         · rw [eH, l1]; simp
       · by_cases c : i = a
         · subst c; exact hK k' h1 (by omega)
         · exact hA i (by omega) k' h1 h2
     · by_cases c : h = g
       · subst c; exact hA i (by omega) k hik hk
       · exact hG h (by omega) i hi k hik hk
   · have hn : fouO x t = none := by
       rw [eO]
       exact firstP_none.2 fun h hh i hi k hk hik => hG h (by omega) i hi k hik hk
     rw [eE, hn]
     exact ⟨rfl, rfl, rfl, rfl⟩
end Go.Proofs.YtcfmdhlohahhcaaDoor
namespace Go.Proofs.YtcfmdhlohahhcaaDoor
open Go Go.Sx Nm
set_option maxRecDepth 100000
structure RlAsk where
 x : Fleet
 t : Truth
 k : Nat
 h : Int
def RlAsk.ok (a : RlAsk) : Prop := Nm.chk a.x = true ∧ trOk a.x a.t = true ∧ (a.x.wf ∧ a.t.wf) ∧ a.k < a.x.k ∧ a.x.net a.k 4 ≤ a.h ∧ a.h ≤ a.x.hE
end Go.Proofs.YtcfmdhlohahhcaaDoor
namespace Go.Proofs.YtcfmdhlohahhcaaDoor
open Go Go.Sx Nm
set_option maxRecDepth 100000
end Go.Proofs.YtcfmdhlohahhcaaDoor
namespace Go.Proofs.YtcfmdhlohahhcaaDoor
open Go Go.Sx Nm
set_option maxRecDepth 100000
end Go.Proofs.YtcfmdhlohahhcaaDoor
namespace Go.Sx
def isRow (st : St) (t i : Nat) (m : Int) : Prop := match st.tm t with
 | .t (.c (.ptr n _)) => (match st.hp n with
   | some (.box _ get) => (match get 3 with
     | .os r _ _ => (match st.hp r with | some (.row _ _ _ g) => isI (.t (.c (g i 0))) m | _ => False)
     | _ => False)
   | _ => False)
 | _ => False
end Go.Sx
namespace Go.Proofs.YtcfmdhlohahhcaaDoor
open Go Go.Sx Nm
set_option maxRecDepth 100000
def shF (x : Fleet) (k : Nat) (d : Int) : Fleet := ⟨x.hE, x.e, x.hN, x.n, x.gap, x.k, fun i j => if i = k ∧ j = 0 then x.net i 0 + d else x.net i j⟩
theorem shF_chk {x : Fleet} {k : Nat} {d : Int} (hc : Nm.chk x = true) (h0 : 0 ≤ d) (h1 : d ≤ 5000) : ChkW (shF x k d) := by
 have z : 1 ≤ x.hE ∧ x.hE ≤ 24 ∧ x.hN = x.hE ∧ 0 ≤ x.gap ∧ x.gap ≤ 500 ∧ 1 ≤ x.k ∧ x.k ≤ 6 := chk_size hc
 have u : ∀ j, j < x.hE → (-200 ≤ x.e j 0 ∧ x.e j 0 ≤ x.e j 1 ∧ x.e j 1 ≤ 200) ∧ -200 ≤ x.n j 0 ∧ x.n j 0 ≤ x.n j 1 ∧ x.n j 1 ≤ 200 := fun j hj => chk_hour hc hj
 refine ⟨z, u, fun i hi => ?_⟩
 have hi : i < x.k := hi
 have q := chk_net hc hi
 have e : ∀ j, 0 < j → (shF x k d).net i j = x.net i j := fun j hj => by
   show (if i = k ∧ j = 0 then x.net i 0 + d else x.net i j) = _
   rw [if_neg (by omega)]
 have e0 : (shF x k d).net i 0 = x.net i 0 ∨ (shF x k d).net i 0 = x.net i 0 + d := by
   show (if i = k ∧ 0 = 0 then x.net i 0 + d else x.net i 0) = _ ∨ (if i = k ∧ 0 = 0 then x.net i 0 + d else x.net i 0) = _
   split
   · exact .inr rfl
   · exact .inl rfl
 rw [e 1 (by omega), e 2 (by omega), e 3 (by omega), e 4 (by omega), e 5 (by omega), e 6 (by omega), e 7 (by omega), e 8 (by omega), e 9 (by omega)]
 have e1 : (shF x k d).hE = x.hE := rfl
 rw [e1]
 omega
theorem shF_at {x : Fleet} {k : Nat} {d : Int} : (shF x k d).net k 0 = x.net k 0 + d := if_pos ⟨rfl, rfl⟩
def pS (x : Fleet) (k : Nat) (d : Nat) : Nat → Nat → Nat → Bool := fun h i j => (decide (i = k) || decide (j = k)) && canH (shF x k d) h i j
def clrB (x : Fleet) (k d : Nat) : Bool := (firstP (x.hE + 1) x.k (pS x k d)).isNone
def shO (x : Fleet) (k n : Nat) : Option Nat := srch (fun d => if clrB x k d then some d else none) n
def shA (x : Fleet) (k most : Int) : Bool := within k 0 ((x.k : Int) - 1) && within most 0 5000
def shV (x : Fleet) (k most : Int) : Int := if Nm.chk x then (if shA x k most then (match shO x k.toNat (most.toNat + 1) with | some d => d | none => 0) else 0) else 0
def shE (x : Fleet) (k most : Int) : Int := if Nm.chk x then (if shA x k most then (match shO x k.toNat (most.toNat + 1) with | some _ => 0 | none => 4) else 22) else 20
theorem sh_some {x : Fleet} {k most : Int} {d : Nat} (hc : Nm.chk x = true) (ha : shA x k most = true) (h : shO x k.toNat (most.toNat + 1) = some d) : shV x k most = d ∧ shE x k most = 0 := by
 unfold shV shE
 rw [if_pos hc, if_pos hc, if_pos ha, if_pos ha, h]
 exact ⟨rfl, rfl⟩
theorem sh_none {x : Fleet} {k most : Int} (hc : Nm.chk x = true) (ha : shA x k most = true) (h : shO x k.toNat (most.toNat + 1) = none) : shV x k most = 0 ∧ shE x k most = 4 := by
 unfold shV shE
 rw [if_pos hc, if_pos hc, if_pos ha, if_pos ha, h]
 exact ⟨rfl, rfl⟩
theorem sh_22 {x : Fleet} {k most : Int} (hc : Nm.chk x = true) (ha : shA x k most = false) : shV x k most = 0 ∧ shE x k most = 22 := by
 unfold shV shE
 rw [if_pos hc, if_pos hc, ha]
 exact ⟨rfl, rfl⟩
theorem sh_20 {x : Fleet} {k most : Int} (hc : ¬ Nm.chk x = true) : shV x k most = 0 ∧ shE x k most = 20 := by
 unfold shV shE
 rw [if_neg hc, if_neg hc]
 exact ⟨rfl, rfl⟩
end Go.Proofs.YtcfmdhlohahhcaaDoor
namespace Go.Proofs.YtcfmdhlohahhcaaDoor
open Go Go.Sx Nm
set_option maxRecDepth 100000
def sShift : Sig := ⟨Fleet × Int × Int, fun a => [fleetTV a.1, intC a.2.1, intC a.2.2], fun a => a.1.wf, fun a => [.v (intC (shV a.1 a.2.1 a.2.2)), .v (intC (shE a.1 a.2.1 a.2.2))]⟩
def aC0' (x : Fleet) (K n : Nat) : Ann := { G := Nat, ok := fun _ g => g ≤ n ∧ ∀ d, d < g → clrB x K d = false, dom := fun _ => [], tm := fun _ g => [(38, .t (intC g))], hp := fun _ _ => [], mu := fun _ g => n - g }
def cC0 (x : Fleet) (K : Nat) : Ann := { G := Nat, ok := fun st g => isI (st.tm 10) g, dom := fun st => [celN st (osN (st.tm 11)) 3], tm := fun _ _ => [], hp := fun st g => [(celN st (osN (st.tm 11)) 3, .self, some (.row 68 10 x.k (fun i j => .int .i64 ((shF x K g).net i j))))], mu := fun _ _ => 0 }
def aC1' (x : Fleet) (K : Nat) : Ann := { G := Nat × Nat, ok := fun st g => isRow st 2 K ((shF x K g.2).net K 0) ∧ g.1 ≤ x.hE + 1 ∧ ∀ h, h < g.1 → ∀ i, i < x.k → ∀ k, i < k → k < x.k → pS x K g.2 h i k = false, dom := fun _ => [], tm := fun _ g => [(13, .t (intC g.1))], hp := fun _ _ => [], mu := fun _ g => x.hE + 1 - g.1 }
def aC2' (x : Fleet) (K : Nat) : Ann := { G := Nat × Nat × Nat, ok := fun st g => isRow st 1 K ((shF x K g.2.2).net K 0) ∧ isB (st.hp (osN (st.tm 2))) 0 g.2.1 ∧ g.1 ≤ x.k ∧ ∀ i, i < g.1 → ∀ k, i < k → k < x.k → pS x K g.2.2 g.2.1 i k = false, dom := fun _ => [], tm := fun _ g => [(10, .t (intC g.1))], hp := fun _ _ => [], mu := fun _ g => x.k - g.1 }
def aC3' (x : Fleet) (K : Nat) : Ann := { G := Nat × Nat × Nat × Nat, ok := fun st g => isRow st 1 K ((shF x K g.2.2.2).net K 0) ∧ isB (st.hp (osN (st.tm 2))) 0 g.2.2.1 ∧ isI (st.tm 4) g.2.1 ∧ g.2.1 < g.1 ∧ g.1 ≤ x.k ∧ ∀ k, g.2.1 < k → k < g.1 → pS x K g.2.2.2 g.2.2.1 g.2.1 k = false, dom := fun _ => [], tm := fun _ g => [(5, .t (intC g.1))], hp := fun _ _ => [], mu := fun _ g => x.k - g.1 }
theorem q26 (a : sShift.α) (ha : sShift.pre a) : CallQ Tryd.prog E0 26 (sShift.arg a) (sShift.res a) := by
 obtain ⟨x, k, m⟩ := a
 refine bare_say E0_ok [(65, sCanP), (67, sOpen), (127, sTdN), (123, sTdE), (126, sSl 8), (122, sSl 6), (125, sLg 1), (120, sLg 0), (124, sAt 1), (119, sAt 0), (121, sLong), (56, sLie), (55, sNet), (54, sIn)] (show SigsOk Tryd.prog E0 [(65, sCanP), (67, sOpen), (127, sTdN), (123, sTdE), (126, sSl 8), (122, sSl 6), (125, sLg 1), (120, sLg 0), (124, sAt 1), (119, sAt 0), (121, sLong), (56, sLie), (55, sNet), (54, sIn)] from ((((((((((((((SigsOk.nil.cons u54 fun x _ => q54 x).cons u55 q55).cons u56 fun x _ => q56 x).cons u121 fun x _ => q121 x).cons u119 fun x _ => q119 x).cons u124 fun x _ => q124 x).cons u120 fun x _ => q120 x).cons u125 fun x _ => q125 x).cons u122 fun x _ => q122 x).cons u126 fun x _ => q126 x).cons u123 q123).cons u127 q127).cons u67 q67).cons u65 q65)) [] EvensOk.nil runs { live := true, l := [(26, 7, aC0' x k.toNat (m.toNat + 1)), (64, 2, aC1' x k.toNat), (100, 1, aC2' x k.toNat), (100, 4, aC3' x k.toNat)], c := [(26, 12, cC0 x k.toNat)] } (fuel := 8) ?_
 refine of_red (q := ∃ (x_1 : Fleet), ((True∧flq x x_1)∧True)∧(x_1.hE < (4611686018427387904 : Nat)∧x_1.hN < (4611686018427387904 : Nat)∧x_1.k < (4611686018427387904 : Nat))∧((chkE x_1 != (0 : Int)) = true→(True∧(0 : Int) = shV x (k, m).fst (k, m).snd)∧(True∧chkE x_1 = shE x (k, m).fst (k, m).snd)∧True)∧((chkE x_1 != (0 : Int)) = false→inRange IntKind.i64 ((↑(opF x_1).k : Int) - (1 : Int))∧∃ (x_2 : Int × Int × Int), ((True∧k = x_2.fst)∧(True∧(0 : Int) = x_2.snd.fst)∧(True∧(↑(opF x_1).k : Int) - (1 : Int) = x_2.snd.snd)∧True)∧True∧((!within x_2.fst x_2.snd.fst x_2.snd.snd) = true→(True∧(0 : Int) = shV x (k, m).fst (k, m).snd)∧(True∧(22 : Int) = shE x (k, m).fst (k, m).snd)∧True)∧((!within x_2.fst x_2.snd.fst x_2.snd.snd) = false→∃ (x_3 : Int × Int × Int), ((True∧m = x_3.fst)∧(True∧(0 : Int) = x_3.snd.fst)∧(True∧(5000 : Int) = x_3.snd.snd)∧True)∧True∧((!within x_3.fst x_3.snd.fst x_3.snd.snd) = true→(True∧(0 : Int) = shV x (k, m).fst (k, m).snd)∧(True∧(22 : Int) = shE x (k, m).fst (k, m).snd)∧True)∧((!within x_3.fst x_3.snd.fst x_3.snd.snd) = false→inRange IntKind.i64 (m + (1 : Int))∧(∃ (g : Nat), (g≤m.toNat + (1 : Nat)∧∀ (d : Nat), d < g→clrB x k.toNat d = false)∧True∧((True∧(0 : Int) = (↑g : Int))∧True)∧True)∧∀ (g : Nat), (g≤m.toNat + (1 : Nat)∧∀ (d : Nat), d < g→clrB x k.toNat d = false)→(decide ((↑g : Int) < m + (1 : Int)) = true→((0 : Nat) + x.k) * (80 : Nat)≤(140737488355328 : Nat)∧(0 : Nat) + x.k < (4611686018427387904 : Nat)∧((0 : Int)≤k∧k < (↑((0 : Nat) + x.k) : Int)∧inRange IntKind.i64 (x.net (k.toNat - (0 : Nat)) (0 : Nat) + (↑g : Int))∧(0 : Int)≤k∧k < (↑((0 : Nat) + x.k) : Int)∧∃ (g_1 : Nat), (↑g : Int) = (↑g_1 : Int)∧True∧True∧(True∧True∧(0 : Nat) + x.k = x.k∧∀ (i : Nat), i < (0 : Nat) + x.k→(((((((((True∧(if i = k.toNat then x.net (k.toNat - (0 : Nat)) (0 : Nat) + (↑g : Int) else x.net (i - (0 : Nat)) 0) = (shF x k.toNat (↑g_1 : Int)).net i 0)∧(if i = k.toNat then x.net (k.toNat - (0 : Nat)) 1 else x.net (i - (0 : Nat)) 1) = (shF x k.toNat (↑g_1 : Int)).net i 1)∧(if i = k.toNat then x.net (k.toNat - (0 : Nat)) 2 else x.net (i - (0 : Nat)) 2) = (shF x k.toNat (↑g_1 : Int)).net i 2)∧(if i = k.toNat then x.net (k.toNat - (0 : Nat)) 3 else x.net (i - (0 : Nat)) 3) = (shF x k.toNat (↑g_1 : Int)).net i 3)∧(if i = k.toNat then x.net (k.toNat - (0 : Nat)) 4 else x.net (i - (0 : Nat)) 4) = (shF x k.toNat (↑g_1 : Int)).net i 4)∧(if i = k.toNat then x.net (k.toNat - (0 : Nat)) 5 else x.net (i - (0 : Nat)) 5) = (shF x k.toNat (↑g_1 : Int)).net i 5)∧(if i = k.toNat then x.net (k.toNat - (0 : Nat)) 6 else x.net (i - (0 : Nat)) 6) = (shF x k.toNat (↑g_1 : Int)).net i 6)∧(if i = k.toNat then x.net (k.toNat - (0 : Nat)) 7 else x.net (i - (0 : Nat)) 7) = (shF x k.toNat (↑g_1 : Int)).net i 7)∧(if i = k.toNat then x.net (k.toNat - (0 : Nat)) 8 else x.net (i - (0 : Nat)) 8) = (shF x k.toNat (↑g_1 : Int)).net i 8)∧(if i = k.toNat then x.net (k.toNat - (0 : Nat)) 9 else x.net (i - (0 : Nat)) 9) = (shF x k.toNat (↑g_1 : Int)).net i 9)∧True)∧∀ (g_1 : Nat), (↑g : Int) = (↑g_1 : Int)→inRange IntKind.i64 ((↑x.hE : Int) + (1 : Int))∧(∃ (g : Nat × Nat), ((shF x k.toNat (↑g_1 : Int)).net k.toNat (0 : Nat) = (shF x k.toNat (↑g.snd : Int)).net k.toNat (0 : Nat)∧g.fst≤x.hE + (1 : Nat)∧∀ (h : Nat), h < g.fst→∀ (i : Nat), i < x.k→∀ (k_1 : Nat), i < k_1→k_1 < x.k→pS x k.toNat g.snd h i k_1 = false)∧True∧((True∧(0 : Int) = (↑g.fst : Int))∧True)∧True)∧∀ (g_2 : Nat × Nat), ((shF x k.toNat (↑g_1 : Int)).net k.toNat (0 : Nat) = (shF x k.toNat (↑g_2.snd : Int)).net k.toNat (0 : Nat)∧g_2.fst≤x.hE + (1 : Nat)∧∀ (h : Nat), h < g_2.fst→∀ (i : Nat), i < x.k→∀ (k_1 : Nat), i < k_1→k_1 < x.k→pS x k.toNat g_2.snd h i k_1 = false)→(decide ((↑g_2.fst : Int) < (↑x.hE : Int) + (1 : Int)) = true→(∃ (g : Nat × Nat × Nat), ((shF x k.toNat (↑g_1 : Int)).net k.toNat (0 : Nat) = (shF x k.toNat (↑g.snd.snd : Int)).net k.toNat (0 : Nat)∧(↑g_2.fst : Int) = (↑g.snd.fst : Int)∧g.fst≤x.k∧∀ (i : Nat), i < g.fst→∀ (k_1 : Nat), i < k_1→k_1 < x.k→pS x k.toNat g.snd.snd g.snd.fst i k_1 = false)∧True∧((True∧(0 : Int) = (↑g.fst : Int))∧True)∧True)∧∀ (g_3 : Nat × Nat × Nat), ((shF x k.toNat (↑g_1 : Int)).net k.toNat (0 : Nat) = (shF x k.toNat (↑g_3.snd.snd : Int)).net k.toNat (0 : Nat)∧(↑g_2.fst : Int) = (↑g_3.snd.fst : Int)∧g_3.fst≤x.k∧∀ (i : Nat), i < g_3.fst→∀ (k_1 : Nat), i < k_1→k_1 < x.k→pS x k.toNat g_3.snd.snd g_3.snd.fst i k_1 = false)→(decide ((↑g_3.fst : Int) < (↑((0 : Nat) + x.k) : Int)) = true→inRange IntKind.i64 ((↑g_3.fst : Int) + (1 : Int))∧(∃ (g : Nat × Nat × Nat × Nat), ((shF x k.toNat (↑g_1 : Int)).net k.toNat (0 : Nat) = (shF x k.toNat (↑g.snd.snd.snd : Int)).net k.toNat (0 : Nat)∧(↑g_2.fst : Int) = (↑g.snd.snd.fst : Int)∧(↑g_3.fst : Int) = (↑g.snd.fst : Int)∧g.snd.fst < g.fst∧g.fst≤x.k∧∀ (k_1 : Nat), g.snd.fst < k_1→k_1 < g.fst→pS x k.toNat g.snd.snd.snd g.snd.snd.fst g.snd.fst k_1 = false)∧True∧((True∧(↑g_3.fst : Int) + (1 : Int) = (↑g.fst : Int))∧True)∧True)∧∀ (g_4 : Nat × Nat × Nat × Nat), ((shF x k.toNat (↑g_1 : Int)).net k.toNat (0 : Nat) = (shF x k.toNat (↑g_4.snd.snd.snd : Int)).net k.toNat (0 : Nat)∧(↑g_2.fst : Int) = (↑g_4.snd.snd.fst : Int)∧(↑g_3.fst : Int) = (↑g_4.snd.fst : Int)∧g_4.snd.fst < g_4.fst∧g_4.fst≤x.k∧∀ (k_1 : Nat), g_4.snd.fst < k_1→k_1 < g_4.fst→pS x k.toNat g_4.snd.snd.snd g_4.snd.snd.fst g_4.snd.fst k_1 = false)→(decide ((↑g_4.fst : Int) < (↑((0 : Nat) + x.k) : Int)) = true→∃ (x_4 : Fleet × Int), ((True∧(((True∧True∧True∧x.hE = x_4.fst.hE∧∀ (i : Nat), i < x.hE→(True∧x.e i 0 = x_4.fst.e i 0)∧x.e i 1 = x_4.fst.e i 1)∧True∧True∧x.hN = x_4.fst.hN∧∀ (i : Nat), i < x.hN→(True∧x.n i 0 = x_4.fst.n i 0)∧x.n i 1 = x_4.fst.n i 1)∧True∧x.gap = x_4.fst.gap)∧True∧True∧x.k = x_4.fst.k∧∀ (i : Nat), i < x.k→(((((((((True∧(shF x k.toNat (↑g_1 : Int)).net i 0 = x_4.fst.net i 0)∧(shF x k.toNat (↑g_1 : Int)).net i 1 = x_4.fst.net i 1)∧(shF x k.toNat (↑g_1 : Int)).net i 2 = x_4.fst.net i 2)∧(shF x k.toNat (↑g_1 : Int)).net i 3 = x_4.fst.net i 3)∧(shF x k.toNat (↑g_1 : Int)).net i 4 = x_4.fst.net i 4)∧(shF x k.toNat (↑g_1 : Int)).net i 5 = x_4.fst.net i 5)∧(shF x k.toNat (↑g_1 : Int)).net i 6 = x_4.fst.net i 6)∧(shF x k.toNat (↑g_1 : Int)).net i 7 = x_4.fst.net i 7)∧(shF x k.toNat (↑g_1 : Int)).net i 8 = x_4.fst.net i 8)∧(shF x k.toNat (↑g_1 : Int)).net i 9 = x_4.fst.net i 9)∧(True∧(↑g_3.fst : Int) = x_4.snd)∧True)∧((x_4.fst.hE < (4611686018427387904 : Nat)∧x_4.fst.hN < (4611686018427387904 : Nat)∧x_4.fst.k < (4611686018427387904 : Nat))∧(0 : Int)≤x_4.snd∧x_4.snd < (↑x_4.fst.k : Int))∧∃ (x_5 : (Nat→Int) × Int), ((True∧(((((((((True∧True∧x_4.fst.net x_4.snd.toNat 0 = x_5.fst 0)∧True∧x_4.fst.net x_4.snd.toNat 1 = x_5.fst 1)∧True∧x_4.fst.net x_4.snd.toNat 2 = x_5.fst 2)∧True∧x_4.fst.net x_4.snd.toNat 3 = x_5.fst 3)∧True∧x_4.fst.net x_4.snd.toNat 4 = x_5.fst 4)∧True∧x_4.fst.net x_4.snd.toNat 5 = x_5.fst 5)∧True∧x_4.fst.net x_4.snd.toNat 6 = x_5.fst 6)∧True∧x_4.fst.net x_4.snd.toNat 7 = x_5.fst 7)∧True∧x_4.fst.net x_4.snd.toNat 8 = x_5.fst 8)∧True∧x_4.fst.net x_4.snd.toNat 9 = x_5.fst 9)∧(True∧(↑g_2.fst : Int) = x_5.snd)∧True)∧True∧(within x_5.snd (x_5.fst (4 : Nat)) (x_5.fst (5 : Nat)) = true→∃ (x_6 : Fleet × Int), ((True∧(((True∧True∧True∧x.hE = x_6.fst.hE∧∀ (i : Nat), i < x.hE→(True∧x.e i 0 = x_6.fst.e i 0)∧x.e i 1 = x_6.fst.e i 1)∧True∧True∧x.hN = x_6.fst.hN∧∀ (i : Nat), i < x.hN→(True∧x.n i 0 = x_6.fst.n i 0)∧x.n i 1 = x_6.fst.n i 1)∧True∧x.gap = x_6.fst.gap)∧True∧True∧x.k = x_6.fst.k∧∀ (i : Nat), i < x.k→(((((((((True∧(shF x k.toNat (↑g_1 : Int)).net i 0 = x_6.fst.net i 0)∧(shF x k.toNat (↑g_1 : Int)).net i 1 = x_6.fst.net i 1)∧(shF x k.toNat (↑g_1 : Int)).net i 2 = x_6.fst.net i 2)∧(shF x k.toNat (↑g_1 : Int)).net i 3 = x_6.fst.net i 3)∧(shF x k.toNat (↑g_1 : Int)).net i 4 = x_6.fst.net i 4)∧(shF x k.toNat (↑g_1 : Int)).net i 5 = x_6.fst.net i 5)∧(shF x k.toNat (↑g_1 : Int)).net i 6 = x_6.fst.net i 6)∧(shF x k.toNat (↑g_1 : Int)).net i 7 = x_6.fst.net i 7)∧(shF x k.toNat (↑g_1 : Int)).net i 8 = x_6.fst.net i 8)∧(shF x k.toNat (↑g_1 : Int)).net i 9 = x_6.fst.net i 9)∧(True∧(↑g_4.fst : Int) = x_6.snd)∧True)∧((x_6.fst.hE < (4611686018427387904 : Nat)∧x_6.fst.hN < (4611686018427387904 : Nat)∧x_6.fst.k < (4611686018427387904 : Nat))∧(0 : Int)≤x_6.snd∧x_6.snd < (↑x_6.fst.k : Int))∧∃ (x_7 : (Nat→Int) × Int), ((True∧(((((((((True∧True∧x_6.fst.net x_6.snd.toNat 0 = x_7.fst 0)∧True∧x_6.fst.net x_6.snd.toNat 1 = x_7.fst 1)∧True∧x_6.fst.net x_6.snd.toNat 2 = x_7.fst 2)∧True∧x_6.fst.net x_6.snd.toNat 3 = x_7.fst 3)∧True∧x_6.fst.net x_6.snd.toNat 4 = x_7.fst 4)∧True∧x_6.fst.net x_6.snd.toNat 5 = x_7.fst 5)∧True∧x_6.fst.net x_6.snd.toNat 6 = x_7.fst 6)∧True∧x_6.fst.net x_6.snd.toNat 7 = x_7.fst 7)∧True∧x_6.fst.net x_6.snd.toNat 8 = x_7.fst 8)∧True∧x_6.fst.net x_6.snd.toNat 9 = x_7.fst 9)∧(True∧(↑g_2.fst : Int) = x_7.snd)∧True)∧True∧(within x_7.snd (x_7.fst (4 : Nat)) (x_7.fst (5 : Nat)) = true→(((↑g_3.fst : Int) == k) = true→∃ (x_8 : Ask), ((True∧(((True∧True∧True∧x.hE = x_8.x.hE∧∀ (i : Nat), i < x.hE→(True∧x.e i 0 = x_8.x.e i 0)∧x.e i 1 = x_8.x.e i 1)∧True∧True∧x.hN = x_8.x.hN∧∀ (i : Nat), i < x.hN→(True∧x.n i 0 = x_8.x.n i 0)∧x.n i 1 = x_8.x.n i 1)∧True∧x.gap = x_8.x.gap)∧True∧True∧x.k = x_8.x.k∧∀ (i : Nat), i < x.k→(((((((((True∧(shF x k.toNat (↑g_1 : Int)).net i 0 = x_8.x.net i 0)∧(shF x k.toNat (↑g_1 : Int)).net i 1 = x_8.x.net i 1)∧(shF x k.toNat (↑g_1 : Int)).net i 2 = x_8.x.net i 2)∧(shF x k.toNat (↑g_1 : Int)).net i 3 = x_8.x.net i 3)∧(shF x k.toNat (↑g_1 : Int)).net i 4 = x_8.x.net i 4)∧(shF x k.toNat (↑g_1 : Int)).net i 5 = x_8.x.net i 5)∧(shF x k.toNat (↑g_1 : Int)).net i 6 = x_8.x.net i 6)∧(shF x k.toNat (↑g_1 : Int)).net i 7 = x_8.x.net i 7)∧(shF x k.toNat (↑g_1 : Int)).net i 8 = x_8.x.net i 8)∧(shF x k.toNat (↑g_1 : Int)).net i 9 = x_8.x.net i 9)∧(True∧(True∧True∧(↑g_3.fst : Int) = (↑x_8.i : Int))∧True∧(↑g_4.fst : Int) = (↑x_8.k : Int))∧(True∧(↑g_2.fst : Int) = x_8.h)∧True)∧(ChkW x_8.x∧(x_8.x.hE < (4611686018427387904 : Nat)∧x_8.x.hN < (4611686018427387904 : Nat)∧x_8.x.k < (4611686018427387904 : Nat))∧x_8.i < x_8.x.k∧x_8.k < x_8.x.k∧(0 : Int)≤x_8.h∧x_8.h≤(24 : Int))∧(canP x_8 = true→(((0 : Int) == (4 : Int)) = true→(True∧(↑g : Int) = shV x (k, m).fst (k, m).snd)∧(True∧(0 : Int) = shE x (k, m).fst (k, m).snd)∧True)∧(((0 : Int) == (4 : Int)) = false→inRange IntKind.i64 ((↑g : Int) + (1 : Int))∧∃ (g' : Nat), (g'≤m.toNat + (1 : Nat)∧∀ (d : Nat), d < g'→clrB x k.toNat d = false)∧m.toNat + (1 : Nat) - g' < m.toNat + (1 : Nat) - g∧True∧((True∧(↑g : Int) + (1 : Int) = (↑g' : Int))∧True)∧True))∧(canP x_8 = false→inRange IntKind.i64 ((↑g_4.fst : Int) + (1 : Int))∧∃ (g' : Nat × Nat × Nat × Nat), ((shF x k.toNat (↑g_1 : Int)).net k.toNat (0 : Nat) = (shF x k.toNat (↑g'.snd.snd.snd : Int)).net k.toNat (0 : Nat)∧(↑g_2.fst : Int) = (↑g'.snd.snd.fst : Int)∧(↑g_3.fst : Int) = (↑g'.snd.fst : Int)∧g'.snd.fst < g'.fst∧g'.fst≤x.k∧∀ (k_1 : Nat), g'.snd.fst < k_1→k_1 < g'.fst→pS x k.toNat g'.snd.snd.snd g'.snd.snd.fst g'.snd.fst k_1 = false)∧x.k - g'.fst < x.k - g_4.fst∧True∧((True∧(↑g_4.fst : Int) + (1 : Int) = (↑g'.fst : Int))∧True)∧True))∧(((↑g_3.fst : Int) == k) = false→(((↑g_4.fst : Int) == k) = true→∃ (x_8 : Ask), ((True∧(((True∧True∧True∧x.hE = x_8.x.hE∧∀ (i : Nat), i < x.hE→(True∧x.e i 0 = x_8.x.e i 0)∧x.e i 1 = x_8.x.e i 1)∧True∧True∧x.hN = x_8.x.hN∧∀ (i : Nat), i < x.hN→(True∧x.n i 0 = x_8.x.n i 0)∧x.n i 1 = x_8.x.n i 1)∧True∧x.gap = x_8.x.gap)∧True∧True∧x.k = x_8.x.k∧∀ (i : Nat), i < x.k→(((((((((True∧(shF x k.toNat (↑g_1 : Int)).net i 0 = x_8.x.net i 0)∧(shF x k.toNat (↑g_1 : Int)).net i 1 = x_8.x.net i 1)∧(shF x k.toNat (↑g_1 : Int)).net i 2 = x_8.x.net i 2)∧(shF x k.toNat (↑g_1 : Int)).net i 3 = x_8.x.net i 3)∧(shF x k.toNat (↑g_1 : Int)).net i 4 = x_8.x.net i 4)∧(shF x k.toNat (↑g_1 : Int)).net i 5 = x_8.x.net i 5)∧(shF x k.toNat (↑g_1 : Int)).net i 6 = x_8.x.net i 6)∧(shF x k.toNat (↑g_1 : Int)).net i 7 = x_8.x.net i 7)∧(shF x k.toNat (↑g_1 : Int)).net i 8 = x_8.x.net i 8)∧(shF x k.toNat (↑g_1 : Int)).net i 9 = x_8.x.net i 9)∧(True∧(True∧True∧(↑g_3.fst : Int) = (↑x_8.i : Int))∧True∧(↑g_4.fst : Int) = (↑x_8.k : Int))∧(True∧(↑g_2.fst : Int) = x_8.h)∧True)∧(ChkW x_8.x∧(x_8.x.hE < (4611686018427387904 : Nat)∧x_8.x.hN < (4611686018427387904 : Nat)∧x_8.x.k < (4611686018427387904 : Nat))∧x_8.i < x_8.x.k∧x_8.k < x_8.x.k∧(0 : Int)≤x_8.h∧x_8.h≤(24 : Int))∧(canP x_8 = true→(((0 : Int) == (4 : Int)) = true→(True∧(↑g : Int) = shV x (k, m).fst (k, m).snd)∧(True∧(0 : Int) = shE x (k, m).fst (k, m).snd)∧True)∧(((0 : Int) == (4 : Int)) = false→inRange IntKind.i64 ((↑g : Int) + (1 : Int))∧∃ (g' : Nat), (g'≤m.toNat + (1 : Nat)∧∀ (d : Nat), d < g'→clrB x k.toNat d = false)∧m.toNat + (1 : Nat) - g' < m.toNat + (1 : Nat) - g∧True∧((True∧(↑g : Int) + (1 : Int) = (↑g' : Int))∧True)∧True))∧(canP x_8 = false→inRange IntKind.i64 ((↑g_4.fst : Int) + (1 : Int))∧∃ (g' : Nat × Nat × Nat × Nat), ((shF x k.toNat (↑g_1 : Int)).net k.toNat (0 : Nat) = (shF x k.toNat (↑g'.snd.snd.snd : Int)).net k.toNat (0 : Nat)∧(↑g_2.fst : Int) = (↑g'.snd.snd.fst : Int)∧(↑g_3.fst : Int) = (↑g'.snd.fst : Int)∧g'.snd.fst < g'.fst∧g'.fst≤x.k∧∀ (k_1 : Nat), g'.snd.fst < k_1→k_1 < g'.fst→pS x k.toNat g'.snd.snd.snd g'.snd.snd.fst g'.snd.fst k_1 = false)∧x.k - g'.fst < x.k - g_4.fst∧True∧((True∧(↑g_4.fst : Int) + (1 : Int) = (↑g'.fst : Int))∧True)∧True))∧(((↑g_4.fst : Int) == k) = false→inRange IntKind.i64 ((↑g_4.fst : Int) + (1 : Int))∧∃ (g' : Nat × Nat × Nat × Nat), ((shF x k.toNat (↑g_1 : Int)).net k.toNat (0 : Nat) = (shF x k.toNat (↑g'.snd.snd.snd : Int)).net k.toNat (0 : Nat)∧(↑g_2.fst : Int) = (↑g'.snd.snd.fst : Int)∧(↑g_3.fst : Int) = (↑g'.snd.fst : Int)∧g'.snd.fst < g'.fst∧g'.fst≤x.k∧∀ (k_1 : Nat), g'.snd.fst < k_1→k_1 < g'.fst→pS x k.toNat g'.snd.snd.snd g'.snd.snd.fst g'.snd.fst k_1 = false)∧x.k - g'.fst < x.k - g_4.fst∧True∧((True∧(↑g_4.fst : Int) + (1 : Int) = (↑g'.fst : Int))∧True)∧True)))∧(within x_7.snd (x_7.fst (4 : Nat)) (x_7.fst (5 : Nat)) = false→inRange IntKind.i64 ((↑g_4.fst : Int) + (1 : Int))∧∃ (g' : Nat × Nat × Nat × Nat), ((shF x k.toNat (↑g_1 : Int)).net k.toNat (0 : Nat) = (shF x k.toNat (↑g'.snd.snd.snd : Int)).net k.toNat (0 : Nat)∧(↑g_2.fst : Int) = (↑g'.snd.snd.fst : Int)∧(↑g_3.fst : Int) = (↑g'.snd.fst : Int)∧g'.snd.fst < g'.fst∧g'.fst≤x.k∧∀ (k_1 : Nat), g'.snd.fst < k_1→k_1 < g'.fst→pS x k.toNat g'.snd.snd.snd g'.snd.snd.fst g'.snd.fst k_1 = false)∧x.k - g'.fst < x.k - g_4.fst∧True∧((True∧(↑g_4.fst : Int) + (1 : Int) = (↑g'.fst : Int))∧True)∧True))∧(within x_5.snd (x_5.fst (4 : Nat)) (x_5.fst (5 : Nat)) = false→inRange IntKind.i64 ((↑g_4.fst : Int) + (1 : Int))∧∃ (g' : Nat × Nat × Nat × Nat), ((shF x k.toNat (↑g_1 : Int)).net k.toNat (0 : Nat) = (shF x k.toNat (↑g'.snd.snd.snd : Int)).net k.toNat (0 : Nat)∧(↑g_2.fst : Int) = (↑g'.snd.snd.fst : Int)∧(↑g_3.fst : Int) = (↑g'.snd.fst : Int)∧g'.snd.fst < g'.fst∧g'.fst≤x.k∧∀ (k_1 : Nat), g'.snd.fst < k_1→k_1 < g'.fst→pS x k.toNat g'.snd.snd.snd g'.snd.snd.fst g'.snd.fst k_1 = false)∧x.k - g'.fst < x.k - g_4.fst∧True∧((True∧(↑g_4.fst : Int) + (1 : Int) = (↑g'.fst : Int))∧True)∧True))∧(decide ((↑g_4.fst : Int) < (↑((0 : Nat) + x.k) : Int)) = false→inRange IntKind.i64 ((↑g_3.fst : Int) + (1 : Int))∧∃ (g' : Nat × Nat × Nat), ((shF x k.toNat (↑g_1 : Int)).net k.toNat (0 : Nat) = (shF x k.toNat (↑g'.snd.snd : Int)).net k.toNat (0 : Nat)∧(↑g_2.fst : Int) = (↑g'.snd.fst : Int)∧g'.fst≤x.k∧∀ (i : Nat), i < g'.fst→∀ (k_1 : Nat), i < k_1→k_1 < x.k→pS x k.toNat g'.snd.snd g'.snd.fst i k_1 = false)∧x.k - g'.fst < x.k - g_3.fst∧True∧((True∧(↑g_3.fst : Int) + (1 : Int) = (↑g'.fst : Int))∧True)∧True))∧(decide ((↑g_3.fst : Int) < (↑((0 : Nat) + x.k) : Int)) = false→inRange IntKind.i64 ((↑g_2.fst : Int) + (1 : Int))∧∃ (g' : Nat × Nat), ((shF x k.toNat (↑g_1 : Int)).net k.toNat (0 : Nat) = (shF x k.toNat (↑g'.snd : Int)).net k.toNat (0 : Nat)∧g'.fst≤x.hE + (1 : Nat)∧∀ (h : Nat), h < g'.fst→∀ (i : Nat), i < x.k→∀ (k_1 : Nat), i < k_1→k_1 < x.k→pS x k.toNat g'.snd h i k_1 = false)∧x.hE + (1 : Nat) - g'.fst < x.hE + (1 : Nat) - g_2.fst∧True∧((True∧(↑g_2.fst : Int) + (1 : Int) = (↑g'.fst : Int))∧True)∧True))∧(decide ((↑g_2.fst : Int) < (↑x.hE : Int) + (1 : Int)) = false→(((4 : Int) == (4 : Int)) = true→(True∧(↑g : Int) = shV x (k, m).fst (k, m).snd)∧(True∧(0 : Int) = shE x (k, m).fst (k, m).snd)∧True)∧(((4 : Int) == (4 : Int)) = false→inRange IntKind.i64 ((↑g : Int) + (1 : Int))∧∃ (g' : Nat), (g'≤m.toNat + (1 : Nat)∧∀ (d : Nat), d < g'→clrB x k.toNat d = false)∧m.toNat + (1 : Nat) - g' < m.toNat + (1 : Nat) - g∧True∧((True∧(↑g : Int) + (1 : Int) = (↑g' : Int))∧True)∧True)))∧(decide ((↑g : Int) < m + (1 : Int)) = false→(True∧(0 : Int) = shV x (k, m).fst (k, m).snd)∧(True∧(4 : Int) = shE x (k, m).fst (k, m).snd)∧True))))) (by kernel_rfl) ?_
 simp only [flq, true_and, and_true, inR, Prod.exists, Prod.forall, and_assoc, exists_and_left, exists_eq_left', exists_eq_left, forall_eq, exists_const, forall_const, loopN, loopM, fa2, fas, fas2, dup1, dup2, dup3, dup4, ite_true, exhs, exhn, exhz, exho, exA, ex1, ex2, ex3, ex4, ex5, beqI, bneI, decide_true, Bool.true_and, decide_eq_true_eq, decide_eq_false_iff_not, ne_eq, Decidable.not_not]
 simp only [Nat.zero_add, Nat.sub_zero, Int.toNat_natCast]
 obtain ⟨w1, w2, w3⟩ := (show x.wf from ha)
 refine exF ⟨w1, w2, w3, fun e => ?_, fun e => ?_⟩
 · obtain ⟨hc, e20⟩ := not_chk e
   obtain ⟨a1, a2⟩ := sh_20 (k := k) (most := m) hc
   exact ⟨a1.symm, by rw [a2, e20]⟩
 · have hc := chk_of e
   rw [opF_eq hc]
   obtain ⟨s1, s2, s3, s4, s5, s6, s7⟩ := chk_size hc
   have f22 : shA x k m = false → 0 = shV x k m ∧ 22 = shE x k m := fun hf => by
     obtain ⟨a1, a2⟩ := sh_22 hc hf
     exact ⟨a1.symm, a2.symm⟩
   refine ⟨by omega, by omega, fun h1 => f22 ?_, fun h1 => ⟨fun h2 => f22 ?_, fun h2 => ?_⟩⟩
   · rw [Bool.not_eq_true'] at h1
     unfold shA; rw [h1]; rfl
   · rw [Bool.not_eq_true'] at h2
     unfold shA; rw [h2]; simp
   · rw [Bool.not_eq_false'] at h1 h2
     have g1 := Nm.within_iff.1 h1
     have g2 := Nm.within_iff.1 h2
     have hA : shA x k m = true := by unfold shA; rw [h1, h2]; rfl
     obtain ⟨K, hK⟩ : ∃ K, K = k.toNat := ⟨_, rfl⟩
     have hK' : k = (K : Int) := by omega
     have hKk : K < x.k := by omega
     rw [← hK]
     have dEq : ∀ g b : Nat, (shF x K g).net K 0 = (shF x K b).net K 0 → g = b := fun g b h => by
       rw [shF_at, shF_at] at h; omega
     obtain ⟨⟨k1, k2⟩, _⟩ := chk_net hc hKk
     refine ⟨by omega, by omega, by omega, fun d hd => absurd hd (Nat.not_lt_zero d), fun g ⟨hg, hG⟩ => ⟨fun hlt => ?_, fun hge => ?_⟩⟩
     · have hW := shF_chk (k := K) (d := (g : Int)) hc (by omega) (by omega)
       have stop : ∀ h i j, h < x.hE + 1 → i < j → j < x.k → pS x K g h i j = true → ∀ d, d < g + 1 → clrB x K d = false := fun h i j q1 q2 q3 q4 d hd => by
         by_cases c : d = g
         · subst c
           unfold clrB
           cases hf : firstP (x.hE + 1) x.k (pS x K d) with
           | some _ => rfl
           | none => rw [firstP_none.1 hf h q1 i (by omega) j q3 q2] at q4; cases q4
         · exact hG d (by omega)
       refine ⟨by omega, by omega, by omega, by omega, by omega, by omega, by omega, by omega, trivial, fun i hi => ?_, by omega, by omega, ⟨0, g, rfl, by omega, fun h hh => absurd hh (Nat.not_lt_zero h), rfl⟩, fun h b ⟨hb, hh, hH⟩ => ?_⟩
       · by_cases c : i = K
         · subst c
           have q0 : (shF x i g).net i 0 = x.net i 0 + g := shF_at
           have q : ∀ j, 0 < j → (shF x i g).net i j = x.net i j := fun j hj => by
             show (if i = i ∧ j = 0 then x.net i 0 + (g : Int) else x.net i j) = _
             rw [if_neg (by omega)]
           rw [q0, q 1 (by omega), q 2 (by omega), q 3 (by omega), q 4 (by omega), q 5 (by omega), q 6 (by omega), q 7 (by omega), q 8 (by omega), q 9 (by omega)]
           simp only [if_true, and_self]
         · have q : ∀ j, (shF x K g).net i j = x.net i j := fun j => by
             show (if i = K ∧ j = 0 then x.net i 0 + (g : Int) else x.net i j) = _
             rw [if_neg (fun h => c h.1)]
           rw [q 0, q 1, q 2, q 3, q 4, q 5, q 6, q 7, q 8, q 9]
           simp only [c, if_false, and_self]
       · obtain rfl := dEq g b hb
         refine ⟨fun hlt2 => ⟨⟨0, h, g, rfl, rfl, by omega, fun i hi => absurd hi (Nat.not_lt_zero i), rfl⟩, fun i h' b ⟨hb, eh, hi, hI⟩ => ?_⟩, fun hge2 => ?_⟩
         · obtain rfl := dEq g b hb
           obtain rfl : h = h' := by omega
           refine ⟨fun hlt3 => ⟨by omega, by omega, ⟨i + 1, i, h, g, rfl, rfl, rfl, by omega, by omega, fun j h1 h2 => by omega, by omega⟩, fun j i' h' b ⟨hb, eh, ei, hj1, hj2, hJ⟩ => ?_⟩, fun hge3 => ⟨by omega, by omega, h + 1, g, rfl, by omega, fun h' hh' i' hi' j hij hj => ?_, by omega, by omega⟩⟩
           · obtain rfl := dEq g b hb
             obtain rfl : h = h' := by omega
             obtain rfl : i = i' := by omega
             refine ⟨fun hlt4 => ?_, fun hge4 => ⟨by omega, by omega, i + 1, h, g, rfl, rfl, by omega, fun i' hi' j' hij hj' => ?_, by omega, by omega⟩⟩
             · have next : pS x K g h i j = false → -9223372036854775808 ≤ (j : Int) + 1 ∧ (j : Int) + 1 ≤ 9223372036854775807 ∧ ∃ a_20 a_21 a_22 b : Nat, (shF x K g).net K 0 = (shF x K b).net K 0 ∧ (h : Int) = a_22 ∧ (i : Int) = a_21 ∧ a_21 < a_20 ∧ a_20 ≤ x.k ∧ (∀ k_1, a_21 < k_1 → k_1 < a_20 → pS x K b a_22 a_21 k_1 = false) ∧ x.k - a_20 < x.k - j ∧ (j : Int) + 1 = a_20 := fun hf =>
                 ⟨by omega, by omega, j + 1, i, h, g, rfl, rfl, rfl, by omega, by omega, fun j' h1 h2 => by
                   by_cases c : j' = j
                   · rw [c]; exact hf
                   · exact hJ j' h1 (by omega), by omega, by omega⟩
               have ly : ∀ q : Nat, q < x.k → lyB (shF x K g) q h = within h ((shF x K g).net q 4) ((shF x K g).net q 5) := fun q hq => by
                 unfold lyB
                 have e : (shF x K g).k = x.k := rfl
                 rw [Int.toNat_natCast, e, show within (q : Int) 0 ((x.k : Int) - 1) = true from Nm.within_iff.2 (by omega)]; rfl
               have eP : pS x K g h i j = ((decide (i = K) || decide (j = K)) && (within h ((shF x K g).net i 4) ((shF x K g).net i 5) && within h ((shF x K g).net j 4) ((shF x K g).net j 5) && canP ⟨shF x K g, i, j, h⟩)) := by
                 unfold pS canH; rw [ly i (by omega), ly j (by omega)]
               refine exF (x := shF x K g) ⟨w1, w2, w3, by omega, by show (i : Int) < (x.k : Int); omega, exNet ⟨fun l1 => exF (x := shF x K g) ⟨w1, w2, w3, by omega, by show (j : Int) < (x.k : Int); omega, exNet ⟨fun l2 => ⟨fun iK => ⟨⟨shF x K g, i, j, h⟩, rfl, fun _ _ => ⟨rfl, rfl⟩, rfl, fun _ _ => ⟨rfl, rfl⟩, rfl, rfl, fun _ _ => ⟨rfl, rfl, rfl, rfl, rfl, rfl, rfl, rfl, rfl, rfl⟩, rfl, rfl, rfl, hW, w1, w2, w3, by show i < x.k; omega, by show j < x.k; omega, by show (0 : Int) ≤ (h : Int); omega, by show (h : Int) ≤ 24; omega, fun hp => ⟨fun h04 => absurd h04 (by omega), fun _ => ⟨by omega, by omega, by omega, fun d hd => ?_, by omega⟩⟩, fun hp => next ?_⟩, fun iK => ⟨fun jK => ⟨⟨shF x K g, i, j, h⟩, rfl, fun _ _ => ⟨rfl, rfl⟩, rfl, fun _ _ => ⟨rfl, rfl⟩, rfl, rfl, fun _ _ => ⟨rfl, rfl, rfl, rfl, rfl, rfl, rfl, rfl, rfl, rfl⟩, rfl, rfl, rfl, hW, w1, w2, w3, by show i < x.k; omega, by show j < x.k; omega, by show (0 : Int) ≤ (h : Int); omega, by show (h : Int) ≤ 24; omega, fun hp => ⟨fun h04 => absurd h04 (by omega), fun _ => ⟨by omega, by omega, by omega, fun d hd => ?_, by omega⟩⟩, fun hp => next ?_⟩, fun jK => next ?_⟩⟩, fun l2 => next ?_⟩⟩, fun l1 => next ?_⟩⟩
               · exact stop h i j (by omega) (by omega) (by omega) (by rw [eP, l1, l2, hp, decide_eq_true (by omega : i = K)]; rfl) d hd
               · rw [eP, hp]; simp
               · exact stop h i j (by omega) (by omega) (by omega) (by rw [eP, l1, l2, hp, decide_eq_true (by omega : j = K)]; simp) d hd
               · rw [eP, hp]; simp
               · rw [eP, decide_eq_false (by omega : ¬ i = K), decide_eq_false (by omega : ¬ j = K)]; rfl
               · rw [eP, l2]; simp
               · rw [eP, l1]; simp
             · by_cases c : i' = i
               · subst c; exact hJ j' hij (by omega)
               · exact hI i' (by omega) j' hij hj'
           · by_cases c : h' = h
             · subst c; exact hI i' (by omega) j hij hj
             · exact hH h' (by omega) i' hi' j hij hj
         · have hcl : clrB x K g = true := by
             unfold clrB
             rw [firstP_none.2 fun h' hh' i hi j hj hij => hH h' (by omega) i hi j hij hj]; rfl
           have hs : shO x k.toNat (m.toNat + 1) = some g := by
             rw [← hK]
             unfold shO
             exact srch_some (i := g) (by omega) (by rw [hcl]; rfl) fun d hd => by rw [hG d hd]; rfl
           obtain ⟨a1, a2⟩ := sh_some hc hA hs
           exact ⟨a1.symm, a2.symm, fun h => by cases h⟩
     · have hs : shO x k.toNat (m.toNat + 1) = none := by
         rw [← hK]
         unfold shO
         exact srch_none.2 fun d hd => by rw [hG d (by omega)]; rfl
       obtain ⟨a1, a2⟩ := sh_none hc hA hs
       exact ⟨a1.symm, a2.symm⟩
end Go.Proofs.YtcfmdhlohahhcaaDoor
namespace Go.Proofs.YtcfmdhlohahhcaaDoor
open Go Go.Sx Nm
set_option maxRecDepth 100000
end Go.Proofs.YtcfmdhlohahhcaaDoor
namespace Go.Proofs.YtcfmdhlohahhcaaDoor
open Go Go.Sx Nm
set_option maxRecDepth 100000
end Go.Proofs.YtcfmdhlohahhcaaDoor
