/- Texts for the law of the last part, part 11. -/
import Derived.Test.YtcfmdhlohahhcaaDoorKnownP10
set_option linter.unusedSimpArgs false
set_option linter.unusedVariables false
namespace Go.Proofs.YtcfmdhlohahhcaaDoor
open Go Go.Sx Nm
set_option maxRecDepth 100000
def sideE : TV := .a 4 (ofList [fnC 119, fnC 120, fnC 122, fnC 123])
def sideN : TV := .a 4 (ofList [fnC 124, fnC 125, fnC 126, fnC 127])
structure Ask where
 x : Fleet
 i : Nat
 k : Nat
 h : Int
def Ask.ok (a : Ask) : Prop := ChkW a.x ∧ a.x.wf ∧ a.i < a.x.k ∧ a.k < a.x.k ∧ 0 ≤ a.h ∧ a.h ≤ 24
def sApE : Sig := ⟨Ask, fun a => [fleetTV a.x, spanTV a.i a.k, intC a.h, sideE], Ask.ok, fun a => [.v (spanTV (apLo a.x a.x.e 0 6 a.i a.k a.h) (apHi a.x a.x.e 0 6 a.i a.k a.h))]⟩
def aA1 (x : Fleet) (f : Nat → Nat → Int) (p i k : Nat) : Ann := { G := Nat, ok := fun _ g => g ≤ (x.net k 4 - x.net i 4).toNat, dom := fun st => [osN (st.tm 12)], tm := fun _ g => [(13, .t (intC (x.net i 4 + g)))], hp := fun st g => [(osN (st.tm 12), .self, some (.box 2 (ofList [.int .i64 (x.net i p - x.net k p + dLo f (x.net i 4) 1 g), .int .i64 (x.net i p - x.net k p + dHi f (x.net i 4) 1 g)])))], mu := fun _ g => (x.net k 4 - x.net i 4).toNat - g }
def aA2 (x : Fleet) (f : Nat → Nat → Int) (p i k : Nat) : Ann := { G := Nat, ok := fun _ g => g ≤ (x.net i 4 - x.net k 4).toNat, dom := fun st => [osN (st.tm 12)], tm := fun _ g => [(14, .t (intC (x.net k 4 + g)))], hp := fun st g => [(osN (st.tm 12), .self, some (.box 2 (ofList [.int .i64 (bLo x f p i k + dLo f (x.net k 4) (-1) g), .int .i64 (bHi x f p i k + dHi f (x.net k 4) (-1) g)])))], mu := fun _ g => (x.net i 4 - x.net k 4).toNat - g }
theorem q68e (a : sApE.α) (ha : sApE.pre a) : CallQ Tryd.prog E0 68 (sApE.arg a) (sApE.res a) := by
 obtain ⟨x, i, k, h⟩ := a
 refine bare_tight E0_ok [(127, sTdN), (123, sTdE), (126, sSl 8), (122, sSl 6), (125, sLg 1), (120, sLg 0), (124, sAt 1), (119, sAt 0), (97, sFar), (121, sLong), (55, sNet)] (show SigsOk Tryd.prog E0 [(127, sTdN), (123, sTdE), (126, sSl 8), (122, sSl 6), (125, sLg 1), (120, sLg 0), (124, sAt 1), (119, sAt 0), (97, sFar), (121, sLong), (55, sNet)] from (((((((((((SigsOk.nil.cons u55 q55).cons u121 fun x _ => q121 x).cons u97 q97).cons u119 fun x _ => q119 x).cons u124 fun x _ => q124 x).cons u120 fun x _ => q120 x).cons u125 fun x _ => q125 x).cons u122 fun x _ => q122 x).cons u126 fun x _ => q126 x).cons u123 q123).cons u127 q127)) [] EvensOk.nil runs [(68, 5, aA1 x x.e 0 i k), (68, 9, aA2 x x.e 0 i k)] [] [] [] [] [] (fuel := 5) ?_
 refine of_red (q := ∃ (x_1 : Fleet × Int), ((True∧flq x x_1.fst)∧(True∧(↑i : Int) = x_1.snd)∧True)∧((x_1.fst.hE < (4611686018427387904 : Nat)∧x_1.fst.hN < (4611686018427387904 : Nat)∧x_1.fst.k < (4611686018427387904 : Nat))∧(0 : Int)≤x_1.snd∧x_1.snd < (↑x_1.fst.k : Int))∧∃ (x_2 : Fleet × Int), ((True∧flq x x_2.fst)∧(True∧(↑k : Int) = x_2.snd)∧True)∧((x_2.fst.hE < (4611686018427387904 : Nat)∧x_2.fst.hN < (4611686018427387904 : Nat)∧x_2.fst.k < (4611686018427387904 : Nat))∧(0 : Int)≤x_2.snd∧x_2.snd < (↑x_2.fst.k : Int))∧∃ (x_3 : Nat→Int), ((True∧(((((((((True∧True∧x_1.fst.net x_1.snd.toNat 0 = x_3 0)∧True∧x_1.fst.net x_1.snd.toNat 1 = x_3 1)∧True∧x_1.fst.net x_1.snd.toNat 2 = x_3 2)∧True∧x_1.fst.net x_1.snd.toNat 3 = x_3 3)∧True∧x_1.fst.net x_1.snd.toNat 4 = x_3 4)∧True∧x_1.fst.net x_1.snd.toNat 5 = x_3 5)∧True∧x_1.fst.net x_1.snd.toNat 6 = x_3 6)∧True∧x_1.fst.net x_1.snd.toNat 7 = x_3 7)∧True∧x_1.fst.net x_1.snd.toNat 8 = x_3 8)∧True∧x_1.fst.net x_1.snd.toNat 9 = x_3 9)∧True)∧True∧∃ (x_4 : Nat→Int), ((True∧(((((((((True∧True∧x_2.fst.net x_2.snd.toNat 0 = x_4 0)∧True∧x_2.fst.net x_2.snd.toNat 1 = x_4 1)∧True∧x_2.fst.net x_2.snd.toNat 2 = x_4 2)∧True∧x_2.fst.net x_2.snd.toNat 3 = x_4 3)∧True∧x_2.fst.net x_2.snd.toNat 4 = x_4 4)∧True∧x_2.fst.net x_2.snd.toNat 5 = x_4 5)∧True∧x_2.fst.net x_2.snd.toNat 6 = x_4 6)∧True∧x_2.fst.net x_2.snd.toNat 7 = x_4 7)∧True∧x_2.fst.net x_2.snd.toNat 8 = x_4 8)∧True∧x_2.fst.net x_2.snd.toNat 9 = x_4 9)∧True)∧True∧inRange IntKind.i64 (x_3 (0 : Nat) - x_4 (0 : Nat))∧(∃ (g : Nat), g≤(x.net k (4 : Nat) - x.net i (4 : Nat)).toNat∧True∧((True∧x_1.fst.net x_1.snd.toNat ((0 : Nat) + (nat_lit 3 + (1 : Nat))) = x.net i (4 : Nat) + (↑g : Int))∧True)∧(True∧(True∧True∧x_3 (0 : Nat) - x_4 (0 : Nat) = x.net i (0 : Nat) - x.net k (0 : Nat) + dLo x.e (x.net i (4 : Nat)) (1 : Int) g)∧True∧x_3 (0 : Nat) - x_4 (0 : Nat) = x.net i (0 : Nat) - x.net k (0 : Nat) + dHi x.e (x.net i (4 : Nat)) (1 : Int) g)∧True)∧∀ (g : Nat), g≤(x.net k (4 : Nat) - x.net i (4 : Nat)).toNat→(decide (x.net i (4 : Nat) + (↑g : Int) < x_2.fst.net x_2.snd.toNat ((0 : Nat) + (nat_lit 3 + (1 : Nat)))) = true→∃ (x_5 : Fleet), ((True∧flq x x_5)∧True)∧(x_5.hE < (4611686018427387904 : Nat)∧x_5.hN < (4611686018427387904 : Nat)∧x_5.k < (4611686018427387904 : Nat))∧(0 : Int)≤x.net i (4 : Nat) + (↑g : Int)∧x.net i (4 : Nat) + (↑g : Int) < (↑x_5.hE : Int)∧∃ (x_6 : (Int × Int) × (Int × Int) × Int), ((True∧(True∧True∧x.net i (0 : Nat) - x.net k (0 : Nat) + dLo x.e (x.net i (4 : Nat)) (1 : Int) g = x_6.fst.fst)∧True∧x.net i (0 : Nat) - x.net k (0 : Nat) + dHi x.e (x.net i (4 : Nat)) (1 : Int) g = x_6.fst.snd)∧(True∧(True∧True∧x_5.e (x.net i (4 : Nat) + (↑g : Int)).toNat 0 = x_6.snd.fst.fst)∧True∧x_5.e (x.net i (4 : Nat) + (↑g : Int)).toNat 1 = x_6.snd.fst.snd)∧(True∧(1 : Int) = x_6.snd.snd)∧True)∧(((-1000000000 : Int)≤x_6.fst.fst∧x_6.fst.fst≤(1000000000 : Int))∧((-1000000000 : Int)≤x_6.fst.snd∧x_6.fst.snd≤(1000000000 : Int))∧((-1000000000 : Int)≤x_6.snd.fst.fst∧x_6.snd.fst.fst≤(1000000000 : Int))∧((-1000000000 : Int)≤x_6.snd.fst.snd∧x_6.snd.fst.snd≤(1000000000 : Int))∧((-1000000000 : Int)≤x_6.snd.snd∧x_6.snd.snd≤(1000000000 : Int))∧x_6.snd.fst.fst≤x_6.snd.fst.snd)∧inRange IntKind.i64 (x.net i (4 : Nat) + (↑g : Int) + (1 : Int))∧∃ (g' : Nat), g'≤(x.net k (4 : Nat) - x.net i (4 : Nat)).toNat∧(x.net k (4 : Nat) - x.net i (4 : Nat)).toNat - g' < (x.net k (4 : Nat) - x.net i (4 : Nat)).toNat - g∧True∧((True∧x.net i (4 : Nat) + (↑g : Int) + (1 : Int) = x.net i (4 : Nat) + (↑g' : Int))∧True)∧(True∧(True∧True∧x_6.fst.fst + tLo x_6.snd.fst.fst x_6.snd.fst.snd x_6.snd.snd = x.net i (0 : Nat) - x.net k (0 : Nat) + dLo x.e (x.net i (4 : Nat)) (1 : Int) g')∧True∧x_6.fst.snd + tHi x_6.snd.fst.fst x_6.snd.fst.snd x_6.snd.snd = x.net i (0 : Nat) - x.net k (0 : Nat) + dHi x.e (x.net i (4 : Nat)) (1 : Int) g')∧True)∧(decide (x.net i (4 : Nat) + (↑g : Int) < x_2.fst.net x_2.snd.toNat ((0 : Nat) + (nat_lit 3 + (1 : Nat)))) = false→(∃ (g_1 : Nat), g_1≤(x.net i (4 : Nat) - x.net k (4 : Nat)).toNat∧True∧((True∧x_2.fst.net x_2.snd.toNat ((0 : Nat) + (nat_lit 3 + (1 : Nat))) = x.net k (4 : Nat) + (↑g_1 : Int))∧True)∧(True∧(True∧True∧x.net i (0 : Nat) - x.net k (0 : Nat) + dLo x.e (x.net i (4 : Nat)) (1 : Int) g = bLo x x.e (0 : Nat) i k + dLo x.e (x.net k (4 : Nat)) (-1 : Int) g_1)∧True∧x.net i (0 : Nat) - x.net k (0 : Nat) + dHi x.e (x.net i (4 : Nat)) (1 : Int) g = bHi x x.e (0 : Nat) i k + dHi x.e (x.net k (4 : Nat)) (-1 : Int) g_1)∧True)∧∀ (g : Nat), g≤(x.net i (4 : Nat) - x.net k (4 : Nat)).toNat→(decide (x.net k (4 : Nat) + (↑g : Int) < x_1.fst.net x_1.snd.toNat ((0 : Nat) + (nat_lit 3 + (1 : Nat)))) = true→∃ (x_5 : Fleet), ((True∧flq x x_5)∧True)∧(x_5.hE < (4611686018427387904 : Nat)∧x_5.hN < (4611686018427387904 : Nat)∧x_5.k < (4611686018427387904 : Nat))∧(0 : Int)≤x.net k (4 : Nat) + (↑g : Int)∧x.net k (4 : Nat) + (↑g : Int) < (↑x_5.hE : Int)∧∃ (x_6 : (Int × Int) × (Int × Int) × Int), ((True∧(True∧True∧bLo x x.e (0 : Nat) i k + dLo x.e (x.net k (4 : Nat)) (-1 : Int) g = x_6.fst.fst)∧True∧bHi x x.e (0 : Nat) i k + dHi x.e (x.net k (4 : Nat)) (-1 : Int) g = x_6.fst.snd)∧(True∧(True∧True∧x_5.e (x.net k (4 : Nat) + (↑g : Int)).toNat 0 = x_6.snd.fst.fst)∧True∧x_5.e (x.net k (4 : Nat) + (↑g : Int)).toNat 1 = x_6.snd.fst.snd)∧(True∧(-1 : Int) = x_6.snd.snd)∧True)∧(((-1000000000 : Int)≤x_6.fst.fst∧x_6.fst.fst≤(1000000000 : Int))∧((-1000000000 : Int)≤x_6.fst.snd∧x_6.fst.snd≤(1000000000 : Int))∧((-1000000000 : Int)≤x_6.snd.fst.fst∧x_6.snd.fst.fst≤(1000000000 : Int))∧((-1000000000 : Int)≤x_6.snd.fst.snd∧x_6.snd.fst.snd≤(1000000000 : Int))∧((-1000000000 : Int)≤x_6.snd.snd∧x_6.snd.snd≤(1000000000 : Int))∧x_6.snd.fst.fst≤x_6.snd.fst.snd)∧inRange IntKind.i64 (x.net k (4 : Nat) + (↑g : Int) + (1 : Int))∧∃ (g' : Nat), g'≤(x.net i (4 : Nat) - x.net k (4 : Nat)).toNat∧(x.net i (4 : Nat) - x.net k (4 : Nat)).toNat - g' < (x.net i (4 : Nat) - x.net k (4 : Nat)).toNat - g∧True∧((True∧x.net k (4 : Nat) + (↑g : Int) + (1 : Int) = x.net k (4 : Nat) + (↑g' : Int))∧True)∧(True∧(True∧True∧x_6.fst.fst + tLo x_6.snd.fst.fst x_6.snd.fst.snd x_6.snd.snd = bLo x x.e (0 : Nat) i k + dLo x.e (x.net k (4 : Nat)) (-1 : Int) g')∧True∧x_6.fst.snd + tHi x_6.snd.fst.fst x_6.snd.fst.snd x_6.snd.snd = bHi x x.e (0 : Nat) i k + dHi x.e (x.net k (4 : Nat)) (-1 : Int) g')∧True)∧(decide (x.net k (4 : Nat) + (↑g : Int) < x_1.fst.net x_1.snd.toNat ((0 : Nat) + (nat_lit 3 + (1 : Nat)))) = false→∃ (x_5 : Nat→Int), ((True∧(((((((((True∧True∧x_1.fst.net x_1.snd.toNat 0 = x_5 0)∧True∧x_1.fst.net x_1.snd.toNat 1 = x_5 1)∧True∧x_1.fst.net x_1.snd.toNat 2 = x_5 2)∧True∧x_1.fst.net x_1.snd.toNat 3 = x_5 3)∧True∧x_1.fst.net x_1.snd.toNat 4 = x_5 4)∧True∧x_1.fst.net x_1.snd.toNat 5 = x_5 5)∧True∧x_1.fst.net x_1.snd.toNat 6 = x_5 6)∧True∧x_1.fst.net x_1.snd.toNat 7 = x_5 7)∧True∧x_1.fst.net x_1.snd.toNat 8 = x_5 8)∧True∧x_1.fst.net x_1.snd.toNat 9 = x_5 9)∧True)∧True∧inRange IntKind.i64 (h - x_1.fst.net x_1.snd.toNat ((0 : Nat) + (nat_lit 3 + (1 : Nat))))∧∃ (x_6 : (Int × Int) × (Int × Int) × Int), ((True∧(True∧True∧bLo x x.e (0 : Nat) i k + dLo x.e (x.net k (4 : Nat)) (-1 : Int) g = x_6.fst.fst)∧True∧bHi x x.e (0 : Nat) i k + dHi x.e (x.net k (4 : Nat)) (-1 : Int) g = x_6.fst.snd)∧(True∧(True∧True∧x_5 (6 : Nat) = x_6.snd.fst.fst)∧True∧x_5 ((6 : Nat) + (1 : Nat)) = x_6.snd.fst.snd)∧(True∧h - x_1.fst.net x_1.snd.toNat ((0 : Nat) + (nat_lit 3 + (1 : Nat))) = x_6.snd.snd)∧True)∧(((-1000000000 : Int)≤x_6.fst.fst∧x_6.fst.fst≤(1000000000 : Int))∧((-1000000000 : Int)≤x_6.fst.snd∧x_6.fst.snd≤(1000000000 : Int))∧((-1000000000 : Int)≤x_6.snd.fst.fst∧x_6.snd.fst.fst≤(1000000000 : Int))∧((-1000000000 : Int)≤x_6.snd.fst.snd∧x_6.snd.fst.snd≤(1000000000 : Int))∧((-1000000000 : Int)≤x_6.snd.snd∧x_6.snd.snd≤(1000000000 : Int))∧x_6.snd.fst.fst≤x_6.snd.fst.snd)∧∃ (x_7 : Nat→Int), ((True∧(((((((((True∧True∧x_2.fst.net x_2.snd.toNat 0 = x_7 0)∧True∧x_2.fst.net x_2.snd.toNat 1 = x_7 1)∧True∧x_2.fst.net x_2.snd.toNat 2 = x_7 2)∧True∧x_2.fst.net x_2.snd.toNat 3 = x_7 3)∧True∧x_2.fst.net x_2.snd.toNat 4 = x_7 4)∧True∧x_2.fst.net x_2.snd.toNat 5 = x_7 5)∧True∧x_2.fst.net x_2.snd.toNat 6 = x_7 6)∧True∧x_2.fst.net x_2.snd.toNat 7 = x_7 7)∧True∧x_2.fst.net x_2.snd.toNat 8 = x_7 8)∧True∧x_2.fst.net x_2.snd.toNat 9 = x_7 9)∧True)∧True∧inRange IntKind.i64 (x_2.fst.net x_2.snd.toNat ((0 : Nat) + (nat_lit 3 + (1 : Nat))) - h)∧∃ (x_8 : (Int × Int) × (Int × Int) × Int), ((True∧(True∧True∧x_6.fst.fst + tLo x_6.snd.fst.fst x_6.snd.fst.snd x_6.snd.snd = x_8.fst.fst)∧True∧x_6.fst.snd + tHi x_6.snd.fst.fst x_6.snd.fst.snd x_6.snd.snd = x_8.fst.snd)∧(True∧(True∧True∧x_7 (6 : Nat) = x_8.snd.fst.fst)∧True∧x_7 ((6 : Nat) + (1 : Nat)) = x_8.snd.fst.snd)∧(True∧x_2.fst.net x_2.snd.toNat ((0 : Nat) + (nat_lit 3 + (1 : Nat))) - h = x_8.snd.snd)∧True)∧(((-1000000000 : Int)≤x_8.fst.fst∧x_8.fst.fst≤(1000000000 : Int))∧((-1000000000 : Int)≤x_8.fst.snd∧x_8.fst.snd≤(1000000000 : Int))∧((-1000000000 : Int)≤x_8.snd.fst.fst∧x_8.snd.fst.fst≤(1000000000 : Int))∧((-1000000000 : Int)≤x_8.snd.fst.snd∧x_8.snd.fst.snd≤(1000000000 : Int))∧((-1000000000 : Int)≤x_8.snd.snd∧x_8.snd.snd≤(1000000000 : Int))∧x_8.snd.fst.fst≤x_8.snd.fst.snd)∧True∧(True∧True∧x_8.fst.fst + tLo x_8.snd.fst.fst x_8.snd.fst.snd x_8.snd.snd = apLo x x.e (0 : Nat) (6 : Nat) i k h)∧True∧x_8.fst.snd + tHi x_8.snd.fst.fst x_8.snd.fst.snd x_8.snd.snd = apHi x x.e (0 : Nat) (6 : Nat) i k h))) (by kernel_rfl) ?_
 simp only [flq, true_and, and_true, inR, Prod.exists, Prod.forall, and_assoc, exists_and_left, exists_eq_left', exists_eq_left, forall_eq, exists_const, forall_const, loopN, loopM, fa2, fas, fas2, dup1, dup2, dup3, dup4, ite_true, exhs, exhn, exhz, exho, exA, ex1, ex2, ex3, ex4, ex5, beqI, bneI, decide_true, Bool.true_and, decide_eq_true_eq, decide_eq_false_iff_not, ne_eq, Decidable.not_not]
 simp only [Int.toNat_natCast, Nat.reduceAdd]
 obtain ⟨hc, ⟨w1, w2, w3⟩, hi, hk, h0, h24⟩ := (show ChkW x ∧ x.wf ∧ i < x.k ∧ k < x.k ∧ 0 ≤ h ∧ h ≤ 24 from ha)
 obtain ⟨⟨i1, i2⟩, _, _, _, ⟨i3, i4⟩, _, ⟨i5, i6, i7⟩, _⟩ := chkW_net hc hi
 obtain ⟨⟨k1, k2⟩, _, _, _, ⟨k3, k4⟩, _, ⟨k5, k6, k7⟩, _⟩ := chkW_net hc hk
 obtain ⟨s1, s2, _⟩ := chkW_size hc
 have hf : ∀ j, j < x.hE → -200 ≤ x.e j 0 ∧ x.e j 0 ≤ x.e j 1 ∧ x.e j 1 ≤ 200 := fun j hj => (chkW_hour hc hj).1
 have lb : (-44800 ≤ bLo x x.e 0 i k ∧ bLo x x.e 0 i k ≤ 44800) ∧ -44800 ≤ bHi x x.e 0 i k ∧ bHi x x.e 0 i k ≤ 44800 := by
   obtain ⟨⟨b1, b2⟩, b3, b4⟩ := d_bd (t := 1) (n := (x.net k 4 - x.net i 4).toNat) (a := x.net i 4) hf (.inl rfl) (by omega) (by omega)
   unfold bLo bHi
   omega
 obtain ⟨⟨lb1, lb2⟩, lb3, lb4⟩ := lb
 refine ⟨x, rfl, fun _ _ => ⟨rfl, rfl⟩, rfl, fun _ _ => ⟨rfl, rfl⟩, rfl, rfl, fun _ _ => ⟨rfl, rfl, rfl, rfl, rfl, rfl, rfl, rfl, rfl, rfl⟩, w1, w2, w3, by omega, by omega, x, rfl, fun _ _ => ⟨rfl, rfl⟩, rfl, fun _ _ => ⟨rfl, rfl⟩, rfl, rfl, fun _ _ => ⟨rfl, rfl, rfl, rfl, rfl, rfl, rfl, rfl, rfl, rfl⟩, w1, w2, w3, by omega, by omega, x.net i, rfl, rfl, rfl, rfl, rfl, rfl, rfl, rfl, rfl, rfl, x.net k, rfl, rfl, rfl, rfl, rfl, rfl, rfl, rfl, rfl, rfl, by omega, by omega, ⟨0, Nat.zero_le _, by simp, by simp [dLo, sumN], by simp [dHi, sumN]⟩, fun g hg => ⟨fun hlt => ?_, fun hge => ⟨?_, fun g2 hg2 => ⟨fun hlt2 => ?_, fun hge2 => ?_⟩⟩⟩⟩
 · have eT : (x.net i 4 + (g : Int)).toNat = (x.net i 4).toNat + g := by omega
   obtain ⟨⟨b1, b2⟩, b3, b4⟩ := d_bd (t := 1) (n := g) (a := x.net i 4) hf (.inl rfl) (by omega) (by omega)
   obtain ⟨f1, f2, f3⟩ := hf ((x.net i 4).toNat + g) (by omega)
   have t1 : dLo x.e (x.net i 4) 1 (g + 1) = dLo x.e (x.net i 4) 1 g + tLo (x.e ((x.net i 4).toNat + g) 0) (x.e ((x.net i 4).toNat + g) 1) 1 := rfl
   have t2 : dHi x.e (x.net i 4) 1 (g + 1) = dHi x.e (x.net i 4) 1 g + tHi (x.e ((x.net i 4).toNat + g) 0) (x.e ((x.net i 4).toNat + g) 1) 1 := rfl
   simp only [eT]
   exact ⟨x, rfl, fun _ _ => ⟨rfl, rfl⟩, rfl, fun _ _ => ⟨rfl, rfl⟩, rfl, rfl, fun _ _ => ⟨rfl, rfl, rfl, rfl, rfl, rfl, rfl, rfl, rfl, rfl⟩, w1, w2, w3, by omega, by omega, by omega, by omega, by omega, by omega, by omega, by omega, by omega, by omega, by omega, by omega, by omega, by omega, by omega, g + 1, by omega, by omega, by omega, by rw [t1]; omega, by rw [t2]; omega⟩
 · have eg : g = (x.net k 4 - x.net i 4).toNat := by omega
   exact ⟨0, Nat.zero_le _, by simp, by rw [eg]; exact (Int.add_zero _).symm, by rw [eg]; exact (Int.add_zero _).symm⟩
 · have eT : (x.net k 4 + (g2 : Int)).toNat = (x.net k 4).toNat + g2 := by omega
   obtain ⟨⟨b1, b2⟩, b3, b4⟩ := d_bd (t := -1) (n := g2) (a := x.net k 4) hf (.inr rfl) (by omega) (by omega)
   obtain ⟨f1, f2, f3⟩ := hf ((x.net k 4).toNat + g2) (by omega)
   have t1 : dLo x.e (x.net k 4) (-1) (g2 + 1) = dLo x.e (x.net k 4) (-1) g2 + tLo (x.e ((x.net k 4).toNat + g2) 0) (x.e ((x.net k 4).toNat + g2) 1) (-1) := rfl
   have t2 : dHi x.e (x.net k 4) (-1) (g2 + 1) = dHi x.e (x.net k 4) (-1) g2 + tHi (x.e ((x.net k 4).toNat + g2) 0) (x.e ((x.net k 4).toNat + g2) 1) (-1) := rfl
   simp only [eT]
   exact ⟨x, rfl, fun _ _ => ⟨rfl, rfl⟩, rfl, fun _ _ => ⟨rfl, rfl⟩, rfl, rfl, fun _ _ => ⟨rfl, rfl, rfl, rfl, rfl, rfl, rfl, rfl, rfl, rfl⟩, w1, w2, w3, by omega, by omega, by omega, by omega, by omega, by omega, by omega, by omega, by omega, by omega, by omega, by omega, by omega, by omega, by omega, g2 + 1, by omega, by omega, by omega, by rw [t1]; omega, by rw [t2]; omega⟩
 · have eg : g2 = (x.net i 4 - x.net k 4).toNat := by omega
   obtain ⟨⟨b1, b2⟩, b3, b4⟩ := d_bd (t := -1) (n := g2) (a := x.net k 4) hf (.inr rfl) (by omega) (by omega)
   obtain ⟨⟨u1, u2⟩, u3, u4⟩ := t_bd (n := h - x.net i 4) i5 i6 i7 (by omega) (by omega)
   obtain ⟨⟨v1, v2⟩, v3, v4⟩ := t_bd (n := x.net k 4 - h) k5 k6 k7 (by omega) (by omega)
   refine ⟨x.net i, rfl, rfl, rfl, rfl, rfl, rfl, rfl, rfl, rfl, rfl, by omega, by omega, by omega, by omega, by omega, by omega, by omega, by omega, by omega, by omega, by omega, by omega, by omega, x.net k, rfl, rfl, rfl, rfl, rfl, rfl, rfl, rfl, rfl, rfl, by omega, by omega, by omega, by omega, by omega, by omega, by omega, by omega, by omega, by omega, by omega, by omega, by omega, ?_, ?_⟩
   · rw [eg]; rfl
   · rw [eg]; rfl
end Go.Proofs.YtcfmdhlohahhcaaDoor
namespace Go.Proofs.YtcfmdhlohahhcaaDoor
open Go Go.Sx Nm
set_option maxRecDepth 100000
def sApN : Sig := ⟨Ask, fun a => [fleetTV a.x, spanTV a.i a.k, intC a.h, sideN], Ask.ok, fun a => [.v (spanTV (apLo a.x a.x.n 1 8 a.i a.k a.h) (apHi a.x a.x.n 1 8 a.i a.k a.h))]⟩
theorem q68n (a : sApN.α) (ha : sApN.pre a) : CallQ Tryd.prog E0 68 (sApN.arg a) (sApN.res a) := by
 obtain ⟨x, i, k, h⟩ := a
 refine bare_tight E0_ok [(127, sTdN), (123, sTdE), (126, sSl 8), (122, sSl 6), (125, sLg 1), (120, sLg 0), (124, sAt 1), (119, sAt 0), (97, sFar), (121, sLong), (55, sNet)] (show SigsOk Tryd.prog E0 [(127, sTdN), (123, sTdE), (126, sSl 8), (122, sSl 6), (125, sLg 1), (120, sLg 0), (124, sAt 1), (119, sAt 0), (97, sFar), (121, sLong), (55, sNet)] from (((((((((((SigsOk.nil.cons u55 q55).cons u121 fun x _ => q121 x).cons u97 q97).cons u119 fun x _ => q119 x).cons u124 fun x _ => q124 x).cons u120 fun x _ => q120 x).cons u125 fun x _ => q125 x).cons u122 fun x _ => q122 x).cons u126 fun x _ => q126 x).cons u123 q123).cons u127 q127)) [] EvensOk.nil runs [(68, 5, aA1 x x.n 1 i k), (68, 9, aA2 x x.n 1 i k)] [] [] [] [] [] (fuel := 5) ?_
 refine of_red (q := ∃ (x_1 : Fleet × Int), ((True∧flq x x_1.fst)∧(True∧(↑i : Int) = x_1.snd)∧True)∧((x_1.fst.hE < (4611686018427387904 : Nat)∧x_1.fst.hN < (4611686018427387904 : Nat)∧x_1.fst.k < (4611686018427387904 : Nat))∧(0 : Int)≤x_1.snd∧x_1.snd < (↑x_1.fst.k : Int))∧∃ (x_2 : Fleet × Int), ((True∧flq x x_2.fst)∧(True∧(↑k : Int) = x_2.snd)∧True)∧((x_2.fst.hE < (4611686018427387904 : Nat)∧x_2.fst.hN < (4611686018427387904 : Nat)∧x_2.fst.k < (4611686018427387904 : Nat))∧(0 : Int)≤x_2.snd∧x_2.snd < (↑x_2.fst.k : Int))∧∃ (x_3 : Nat→Int), ((True∧(((((((((True∧True∧x_1.fst.net x_1.snd.toNat 0 = x_3 0)∧True∧x_1.fst.net x_1.snd.toNat 1 = x_3 1)∧True∧x_1.fst.net x_1.snd.toNat 2 = x_3 2)∧True∧x_1.fst.net x_1.snd.toNat 3 = x_3 3)∧True∧x_1.fst.net x_1.snd.toNat 4 = x_3 4)∧True∧x_1.fst.net x_1.snd.toNat 5 = x_3 5)∧True∧x_1.fst.net x_1.snd.toNat 6 = x_3 6)∧True∧x_1.fst.net x_1.snd.toNat 7 = x_3 7)∧True∧x_1.fst.net x_1.snd.toNat 8 = x_3 8)∧True∧x_1.fst.net x_1.snd.toNat 9 = x_3 9)∧True)∧True∧∃ (x_4 : Nat→Int), ((True∧(((((((((True∧True∧x_2.fst.net x_2.snd.toNat 0 = x_4 0)∧True∧x_2.fst.net x_2.snd.toNat 1 = x_4 1)∧True∧x_2.fst.net x_2.snd.toNat 2 = x_4 2)∧True∧x_2.fst.net x_2.snd.toNat 3 = x_4 3)∧True∧x_2.fst.net x_2.snd.toNat 4 = x_4 4)∧True∧x_2.fst.net x_2.snd.toNat 5 = x_4 5)∧True∧x_2.fst.net x_2.snd.toNat 6 = x_4 6)∧True∧x_2.fst.net x_2.snd.toNat 7 = x_4 7)∧True∧x_2.fst.net x_2.snd.toNat 8 = x_4 8)∧True∧x_2.fst.net x_2.snd.toNat 9 = x_4 9)∧True)∧True∧inRange IntKind.i64 (x_3 (1 : Nat) - x_4 (1 : Nat))∧(∃ (g : Nat), g≤(x.net k (4 : Nat) - x.net i (4 : Nat)).toNat∧True∧((True∧x_1.fst.net x_1.snd.toNat ((0 : Nat) + (nat_lit 3 + (1 : Nat))) = x.net i (4 : Nat) + (↑g : Int))∧True)∧(True∧(True∧True∧x_3 (1 : Nat) - x_4 (1 : Nat) = x.net i (1 : Nat) - x.net k (1 : Nat) + dLo x.n (x.net i (4 : Nat)) (1 : Int) g)∧True∧x_3 (1 : Nat) - x_4 (1 : Nat) = x.net i (1 : Nat) - x.net k (1 : Nat) + dHi x.n (x.net i (4 : Nat)) (1 : Int) g)∧True)∧∀ (g : Nat), g≤(x.net k (4 : Nat) - x.net i (4 : Nat)).toNat→(decide (x.net i (4 : Nat) + (↑g : Int) < x_2.fst.net x_2.snd.toNat ((0 : Nat) + (nat_lit 3 + (1 : Nat)))) = true→∃ (x_5 : Fleet), ((True∧flq x x_5)∧True)∧(x_5.hE < (4611686018427387904 : Nat)∧x_5.hN < (4611686018427387904 : Nat)∧x_5.k < (4611686018427387904 : Nat))∧(0 : Int)≤x.net i (4 : Nat) + (↑g : Int)∧x.net i (4 : Nat) + (↑g : Int) < (↑x_5.hN : Int)∧∃ (x_6 : (Int × Int) × (Int × Int) × Int), ((True∧(True∧True∧x.net i (1 : Nat) - x.net k (1 : Nat) + dLo x.n (x.net i (4 : Nat)) (1 : Int) g = x_6.fst.fst)∧True∧x.net i (1 : Nat) - x.net k (1 : Nat) + dHi x.n (x.net i (4 : Nat)) (1 : Int) g = x_6.fst.snd)∧(True∧(True∧True∧x_5.n (x.net i (4 : Nat) + (↑g : Int)).toNat 0 = x_6.snd.fst.fst)∧True∧x_5.n (x.net i (4 : Nat) + (↑g : Int)).toNat 1 = x_6.snd.fst.snd)∧(True∧(1 : Int) = x_6.snd.snd)∧True)∧(((-1000000000 : Int)≤x_6.fst.fst∧x_6.fst.fst≤(1000000000 : Int))∧((-1000000000 : Int)≤x_6.fst.snd∧x_6.fst.snd≤(1000000000 : Int))∧((-1000000000 : Int)≤x_6.snd.fst.fst∧x_6.snd.fst.fst≤(1000000000 : Int))∧((-1000000000 : Int)≤x_6.snd.fst.snd∧x_6.snd.fst.snd≤(1000000000 : Int))∧((-1000000000 : Int)≤x_6.snd.snd∧x_6.snd.snd≤(1000000000 : Int))∧x_6.snd.fst.fst≤x_6.snd.fst.snd)∧inRange IntKind.i64 (x.net i (4 : Nat) + (↑g : Int) + (1 : Int))∧∃ (g' : Nat), g'≤(x.net k (4 : Nat) - x.net i (4 : Nat)).toNat∧(x.net k (4 : Nat) - x.net i (4 : Nat)).toNat - g' < (x.net k (4 : Nat) - x.net i (4 : Nat)).toNat - g∧True∧((True∧x.net i (4 : Nat) + (↑g : Int) + (1 : Int) = x.net i (4 : Nat) + (↑g' : Int))∧True)∧(True∧(True∧True∧x_6.fst.fst + tLo x_6.snd.fst.fst x_6.snd.fst.snd x_6.snd.snd = x.net i (1 : Nat) - x.net k (1 : Nat) + dLo x.n (x.net i (4 : Nat)) (1 : Int) g')∧True∧x_6.fst.snd + tHi x_6.snd.fst.fst x_6.snd.fst.snd x_6.snd.snd = x.net i (1 : Nat) - x.net k (1 : Nat) + dHi x.n (x.net i (4 : Nat)) (1 : Int) g')∧True)∧(decide (x.net i (4 : Nat) + (↑g : Int) < x_2.fst.net x_2.snd.toNat ((0 : Nat) + (nat_lit 3 + (1 : Nat)))) = false→(∃ (g_1 : Nat), g_1≤(x.net i (4 : Nat) - x.net k (4 : Nat)).toNat∧True∧((True∧x_2.fst.net x_2.snd.toNat ((0 : Nat) + (nat_lit 3 + (1 : Nat))) = x.net k (4 : Nat) + (↑g_1 : Int))∧True)∧(True∧(True∧True∧x.net i (1 : Nat) - x.net k (1 : Nat) + dLo x.n (x.net i (4 : Nat)) (1 : Int) g = bLo x x.n (1 : Nat) i k + dLo x.n (x.net k (4 : Nat)) (-1 : Int) g_1)∧True∧x.net i (1 : Nat) - x.net k (1 : Nat) + dHi x.n (x.net i (4 : Nat)) (1 : Int) g = bHi x x.n (1 : Nat) i k + dHi x.n (x.net k (4 : Nat)) (-1 : Int) g_1)∧True)∧∀ (g : Nat), g≤(x.net i (4 : Nat) - x.net k (4 : Nat)).toNat→(decide (x.net k (4 : Nat) + (↑g : Int) < x_1.fst.net x_1.snd.toNat ((0 : Nat) + (nat_lit 3 + (1 : Nat)))) = true→∃ (x_5 : Fleet), ((True∧flq x x_5)∧True)∧(x_5.hE < (4611686018427387904 : Nat)∧x_5.hN < (4611686018427387904 : Nat)∧x_5.k < (4611686018427387904 : Nat))∧(0 : Int)≤x.net k (4 : Nat) + (↑g : Int)∧x.net k (4 : Nat) + (↑g : Int) < (↑x_5.hN : Int)∧∃ (x_6 : (Int × Int) × (Int × Int) × Int), ((True∧(True∧True∧bLo x x.n (1 : Nat) i k + dLo x.n (x.net k (4 : Nat)) (-1 : Int) g = x_6.fst.fst)∧True∧bHi x x.n (1 : Nat) i k + dHi x.n (x.net k (4 : Nat)) (-1 : Int) g = x_6.fst.snd)∧(True∧(True∧True∧x_5.n (x.net k (4 : Nat) + (↑g : Int)).toNat 0 = x_6.snd.fst.fst)∧True∧x_5.n (x.net k (4 : Nat) + (↑g : Int)).toNat 1 = x_6.snd.fst.snd)∧(True∧(-1 : Int) = x_6.snd.snd)∧True)∧(((-1000000000 : Int)≤x_6.fst.fst∧x_6.fst.fst≤(1000000000 : Int))∧((-1000000000 : Int)≤x_6.fst.snd∧x_6.fst.snd≤(1000000000 : Int))∧((-1000000000 : Int)≤x_6.snd.fst.fst∧x_6.snd.fst.fst≤(1000000000 : Int))∧((-1000000000 : Int)≤x_6.snd.fst.snd∧x_6.snd.fst.snd≤(1000000000 : Int))∧((-1000000000 : Int)≤x_6.snd.snd∧x_6.snd.snd≤(1000000000 : Int))∧x_6.snd.fst.fst≤x_6.snd.fst.snd)∧inRange IntKind.i64 (x.net k (4 : Nat) + (↑g : Int) + (1 : Int))∧∃ (g' : Nat), g'≤(x.net i (4 : Nat) - x.net k (4 : Nat)).toNat∧(x.net i (4 : Nat) - x.net k (4 : Nat)).toNat - g' < (x.net i (4 : Nat) - x.net k (4 : Nat)).toNat - g∧True∧((True∧x.net k (4 : Nat) + (↑g : Int) + (1 : Int) = x.net k (4 : Nat) + (↑g' : Int))∧True)∧(True∧(True∧True∧x_6.fst.fst + tLo x_6.snd.fst.fst x_6.snd.fst.snd x_6.snd.snd = bLo x x.n (1 : Nat) i k + dLo x.n (x.net k (4 : Nat)) (-1 : Int) g')∧True∧x_6.fst.snd + tHi x_6.snd.fst.fst x_6.snd.fst.snd x_6.snd.snd = bHi x x.n (1 : Nat) i k + dHi x.n (x.net k (4 : Nat)) (-1 : Int) g')∧True)∧(decide (x.net k (4 : Nat) + (↑g : Int) < x_1.fst.net x_1.snd.toNat ((0 : Nat) + (nat_lit 3 + (1 : Nat)))) = false→∃ (x_5 : Nat→Int), ((True∧(((((((((True∧True∧x_1.fst.net x_1.snd.toNat 0 = x_5 0)∧True∧x_1.fst.net x_1.snd.toNat 1 = x_5 1)∧True∧x_1.fst.net x_1.snd.toNat 2 = x_5 2)∧True∧x_1.fst.net x_1.snd.toNat 3 = x_5 3)∧True∧x_1.fst.net x_1.snd.toNat 4 = x_5 4)∧True∧x_1.fst.net x_1.snd.toNat 5 = x_5 5)∧True∧x_1.fst.net x_1.snd.toNat 6 = x_5 6)∧True∧x_1.fst.net x_1.snd.toNat 7 = x_5 7)∧True∧x_1.fst.net x_1.snd.toNat 8 = x_5 8)∧True∧x_1.fst.net x_1.snd.toNat 9 = x_5 9)∧True)∧True∧inRange IntKind.i64 (h - x_1.fst.net x_1.snd.toNat ((0 : Nat) + (nat_lit 3 + (1 : Nat))))∧∃ (x_6 : (Int × Int) × (Int × Int) × Int), ((True∧(True∧True∧bLo x x.n (1 : Nat) i k + dLo x.n (x.net k (4 : Nat)) (-1 : Int) g = x_6.fst.fst)∧True∧bHi x x.n (1 : Nat) i k + dHi x.n (x.net k (4 : Nat)) (-1 : Int) g = x_6.fst.snd)∧(True∧(True∧True∧x_5 (8 : Nat) = x_6.snd.fst.fst)∧True∧x_5 ((8 : Nat) + (1 : Nat)) = x_6.snd.fst.snd)∧(True∧h - x_1.fst.net x_1.snd.toNat ((0 : Nat) + (nat_lit 3 + (1 : Nat))) = x_6.snd.snd)∧True)∧(((-1000000000 : Int)≤x_6.fst.fst∧x_6.fst.fst≤(1000000000 : Int))∧((-1000000000 : Int)≤x_6.fst.snd∧x_6.fst.snd≤(1000000000 : Int))∧((-1000000000 : Int)≤x_6.snd.fst.fst∧x_6.snd.fst.fst≤(1000000000 : Int))∧((-1000000000 : Int)≤x_6.snd.fst.snd∧x_6.snd.fst.snd≤(1000000000 : Int))∧((-1000000000 : Int)≤x_6.snd.snd∧x_6.snd.snd≤(1000000000 : Int))∧x_6.snd.fst.fst≤x_6.snd.fst.snd)∧∃ (x_7 : Nat→Int), ((True∧(((((((((True∧True∧x_2.fst.net x_2.snd.toNat 0 = x_7 0)∧True∧x_2.fst.net x_2.snd.toNat 1 = x_7 1)∧True∧x_2.fst.net x_2.snd.toNat 2 = x_7 2)∧True∧x_2.fst.net x_2.snd.toNat 3 = x_7 3)∧True∧x_2.fst.net x_2.snd.toNat 4 = x_7 4)∧True∧x_2.fst.net x_2.snd.toNat 5 = x_7 5)∧True∧x_2.fst.net x_2.snd.toNat 6 = x_7 6)∧True∧x_2.fst.net x_2.snd.toNat 7 = x_7 7)∧True∧x_2.fst.net x_2.snd.toNat 8 = x_7 8)∧True∧x_2.fst.net x_2.snd.toNat 9 = x_7 9)∧True)∧True∧inRange IntKind.i64 (x_2.fst.net x_2.snd.toNat ((0 : Nat) + (nat_lit 3 + (1 : Nat))) - h)∧∃ (x_8 : (Int × Int) × (Int × Int) × Int), ((True∧(True∧True∧x_6.fst.fst + tLo x_6.snd.fst.fst x_6.snd.fst.snd x_6.snd.snd = x_8.fst.fst)∧True∧x_6.fst.snd + tHi x_6.snd.fst.fst x_6.snd.fst.snd x_6.snd.snd = x_8.fst.snd)∧(True∧(True∧True∧x_7 (8 : Nat) = x_8.snd.fst.fst)∧True∧x_7 ((8 : Nat) + (1 : Nat)) = x_8.snd.fst.snd)∧(True∧x_2.fst.net x_2.snd.toNat ((0 : Nat) + (nat_lit 3 + (1 : Nat))) - h = x_8.snd.snd)∧True)∧(((-1000000000 : Int)≤x_8.fst.fst∧x_8.fst.fst≤(1000000000 : Int))∧((-1000000000 : Int)≤x_8.fst.snd∧x_8.fst.snd≤(1000000000 : Int))∧((-1000000000 : Int)≤x_8.snd.fst.fst∧x_8.snd.fst.fst≤(1000000000 : Int))∧((-1000000000 : Int)≤x_8.snd.fst.snd∧x_8.snd.fst.snd≤(1000000000 : Int))∧((-1000000000 : Int)≤x_8.snd.snd∧x_8.snd.snd≤(1000000000 : Int))∧x_8.snd.fst.fst≤x_8.snd.fst.snd)∧True∧(True∧True∧x_8.fst.fst + tLo x_8.snd.fst.fst x_8.snd.fst.snd x_8.snd.snd = apLo x x.n (1 : Nat) (8 : Nat) i k h)∧True∧x_8.fst.snd + tHi x_8.snd.fst.fst x_8.snd.fst.snd x_8.snd.snd = apHi x x.n (1 : Nat) (8 : Nat) i k h))) (by kernel_rfl) ?_
 simp only [flq, true_and, and_true, inR, Prod.exists, Prod.forall, and_assoc, exists_and_left, exists_eq_left', exists_eq_left, forall_eq, exists_const, forall_const, loopN, loopM, fa2, fas, fas2, dup1, dup2, dup3, dup4, ite_true, exhs, exhn, exhz, exho, exA, ex1, ex2, ex3, ex4, ex5, beqI, bneI, decide_true, Bool.true_and, decide_eq_true_eq, decide_eq_false_iff_not, ne_eq, Decidable.not_not]
 simp only [Int.toNat_natCast, Nat.reduceAdd]
 obtain ⟨hc, ⟨w1, w2, w3⟩, hi, hk, h0, h24⟩ := (show ChkW x ∧ x.wf ∧ i < x.k ∧ k < x.k ∧ 0 ≤ h ∧ h ≤ 24 from ha)
 obtain ⟨_, ⟨i1, i2⟩, _, _, ⟨i3, i4⟩, _, _, i5, i6, i7⟩ := chkW_net hc hi
 obtain ⟨_, ⟨k1, k2⟩, _, _, ⟨k3, k4⟩, _, _, k5, k6, k7⟩ := chkW_net hc hk
 obtain ⟨s1, s2, s3, _⟩ := chkW_size hc
 have hf : ∀ j, j < x.hE → -200 ≤ x.n j 0 ∧ x.n j 0 ≤ x.n j 1 ∧ x.n j 1 ≤ 200 := fun j hj => (chkW_hour hc hj).2
 have lb : (-44800 ≤ bLo x x.n 1 i k ∧ bLo x x.n 1 i k ≤ 44800) ∧ -44800 ≤ bHi x x.n 1 i k ∧ bHi x x.n 1 i k ≤ 44800 := by
   obtain ⟨⟨b1, b2⟩, b3, b4⟩ := d_bd (t := 1) (n := (x.net k 4 - x.net i 4).toNat) (a := x.net i 4) hf (.inl rfl) (by omega) (by omega)
   unfold bLo bHi
   omega
 obtain ⟨⟨lb1, lb2⟩, lb3, lb4⟩ := lb
 refine ⟨x, rfl, fun _ _ => ⟨rfl, rfl⟩, rfl, fun _ _ => ⟨rfl, rfl⟩, rfl, rfl, fun _ _ => ⟨rfl, rfl, rfl, rfl, rfl, rfl, rfl, rfl, rfl, rfl⟩, w1, w2, w3, by omega, by omega, x, rfl, fun _ _ => ⟨rfl, rfl⟩, rfl, fun _ _ => ⟨rfl, rfl⟩, rfl, rfl, fun _ _ => ⟨rfl, rfl, rfl, rfl, rfl, rfl, rfl, rfl, rfl, rfl⟩, w1, w2, w3, by omega, by omega, x.net i, rfl, rfl, rfl, rfl, rfl, rfl, rfl, rfl, rfl, rfl, x.net k, rfl, rfl, rfl, rfl, rfl, rfl, rfl, rfl, rfl, rfl, by omega, by omega, ⟨0, Nat.zero_le _, by simp, by simp [dLo, sumN], by simp [dHi, sumN]⟩, fun g hg => ⟨fun hlt => ?_, fun hge => ⟨?_, fun g2 hg2 => ⟨fun hlt2 => ?_, fun hge2 => ?_⟩⟩⟩⟩
 · have eT : (x.net i 4 + (g : Int)).toNat = (x.net i 4).toNat + g := by omega
   obtain ⟨⟨b1, b2⟩, b3, b4⟩ := d_bd (t := 1) (n := g) (a := x.net i 4) hf (.inl rfl) (by omega) (by omega)
   obtain ⟨f1, f2, f3⟩ := hf ((x.net i 4).toNat + g) (by omega)
   have t1 : dLo x.n (x.net i 4) 1 (g + 1) = dLo x.n (x.net i 4) 1 g + tLo (x.n ((x.net i 4).toNat + g) 0) (x.n ((x.net i 4).toNat + g) 1) 1 := rfl
   have t2 : dHi x.n (x.net i 4) 1 (g + 1) = dHi x.n (x.net i 4) 1 g + tHi (x.n ((x.net i 4).toNat + g) 0) (x.n ((x.net i 4).toNat + g) 1) 1 := rfl
   simp only [eT]
   exact ⟨x, rfl, fun _ _ => ⟨rfl, rfl⟩, rfl, fun _ _ => ⟨rfl, rfl⟩, rfl, rfl, fun _ _ => ⟨rfl, rfl, rfl, rfl, rfl, rfl, rfl, rfl, rfl, rfl⟩, w1, w2, w3, by omega, by omega, by omega, by omega, by omega, by omega, by omega, by omega, by omega, by omega, by omega, by omega, by omega, by omega, by omega, g + 1, by omega, by omega, by omega, by rw [t1]; omega, by rw [t2]; omega⟩
 · have eg : g = (x.net k 4 - x.net i 4).toNat := by omega
   exact ⟨0, Nat.zero_le _, by simp, by rw [eg]; exact (Int.add_zero _).symm, by rw [eg]; exact (Int.add_zero _).symm⟩
 · have eT : (x.net k 4 + (g2 : Int)).toNat = (x.net k 4).toNat + g2 := by omega
   obtain ⟨⟨b1, b2⟩, b3, b4⟩ := d_bd (t := -1) (n := g2) (a := x.net k 4) hf (.inr rfl) (by omega) (by omega)
   obtain ⟨f1, f2, f3⟩ := hf ((x.net k 4).toNat + g2) (by omega)
   have t1 : dLo x.n (x.net k 4) (-1) (g2 + 1) = dLo x.n (x.net k 4) (-1) g2 + tLo (x.n ((x.net k 4).toNat + g2) 0) (x.n ((x.net k 4).toNat + g2) 1) (-1) := rfl
   have t2 : dHi x.n (x.net k 4) (-1) (g2 + 1) = dHi x.n (x.net k 4) (-1) g2 + tHi (x.n ((x.net k 4).toNat + g2) 0) (x.n ((x.net k 4).toNat + g2) 1) (-1) := rfl
   simp only [eT]
   exact ⟨x, rfl, fun _ _ => ⟨rfl, rfl⟩, rfl, fun _ _ => ⟨rfl, rfl⟩, rfl, rfl, fun _ _ => ⟨rfl, rfl, rfl, rfl, rfl, rfl, rfl, rfl, rfl, rfl⟩, w1, w2, w3, by omega, by omega, by omega, by omega, by omega, by omega, by omega, by omega, by omega, by omega, by omega, by omega, by omega, by omega, by omega, g2 + 1, by omega, by omega, by omega, by rw [t1]; omega, by rw [t2]; omega⟩
 · have eg : g2 = (x.net i 4 - x.net k 4).toNat := by omega
   obtain ⟨⟨b1, b2⟩, b3, b4⟩ := d_bd (t := -1) (n := g2) (a := x.net k 4) hf (.inr rfl) (by omega) (by omega)
   obtain ⟨⟨u1, u2⟩, u3, u4⟩ := t_bd (n := h - x.net i 4) i5 i6 i7 (by omega) (by omega)
   obtain ⟨⟨v1, v2⟩, v3, v4⟩ := t_bd (n := x.net k 4 - h) k5 k6 k7 (by omega) (by omega)
   refine ⟨x.net i, rfl, rfl, rfl, rfl, rfl, rfl, rfl, rfl, rfl, rfl, by omega, by omega, by omega, by omega, by omega, by omega, by omega, by omega, by omega, by omega, by omega, by omega, by omega, x.net k, rfl, rfl, rfl, rfl, rfl, rfl, rfl, rfl, rfl, rfl, by omega, by omega, by omega, by omega, by omega, by omega, by omega, by omega, by omega, by omega, by omega, by omega, by omega, ?_, ?_⟩
   · rw [eg]; rfl
   · rw [eg]; rfl
end Go.Proofs.YtcfmdhlohahhcaaDoor
namespace Nm
open Go Go.Sx
def nh (A B : Int) (j : Nat) : Int := (if A ≤ j then 1 else 0) - (if B ≤ j then 1 else 0)
def rLo (f : Nat → Nat → Int) (A B : Int) (n : Nat) : Int := sumN (fun j => tLo (f j 0) (f j 1) (nh A B j)) n
def rHi (f : Nat → Nat → Int) (A B : Int) (n : Nat) : Int := sumN (fun j => tHi (f j 0) (f j 1) (nh A B j)) n
theorem sumN_split {g : Nat → Int} {a : Nat} : ∀ b, sumN g (a + b) = sumN g a + sumN (fun j => g (a + j)) b
 | 0 => (Int.add_zero _).symm
 | b + 1 => by
   rw [show a + (b + 1) = a + b + 1 by omega, sumN, sumN_split b, sumN]
   omega
theorem sumN_zero {g : Nat → Int} {n : Nat} (h : ∀ j, j < n → g j = 0) : sumN g n = 0 := by
 induction n with
 | zero => rfl
 | succ n ih => rw [sumN, ih (fun j hj => h j (by omega)), h n (by omega)]; rfl
theorem sumN_congr {g g' : Nat → Int} {n : Nat} (h : ∀ j, j < n → g j = g' j) : sumN g n = sumN g' n := by
 induction n with
 | zero => rfl
 | succ n ih => rw [sumN, sumN, ih (fun j hj => h j (by omega)), h n (by omega)]
theorem t_zero (l h : Int) : tLo l h 0 = 0 ∧ tHi l h 0 = 0 := by simp [tLo, tHi]
theorem r_same {A B : Int} (hA : 0 ≤ A) (hB : 0 ≤ B) {n : Nat} (h1 : A ≤ n) (h2 : B ≤ n) (t : Int → Int → Int → Int) (ht : ∀ l h, t l h 0 = 0) (f : Nat → Nat → Int) :
   sumN (fun j => t (f j 0) (f j 1) (nh A B j)) n = sumN (fun j => t (f (A.toNat + j) 0) (f (A.toNat + j) 1) 1) (B - A).toNat + sumN (fun j => t (f (B.toNat + j) 0) (f (B.toNat + j) 1) (-1)) (A - B).toNat := by
 by_cases hab : A ≤ B
 · obtain ⟨c, hc⟩ : ∃ c : Nat, B.toNat = A.toNat + c := ⟨B.toNat - A.toNat, by omega⟩
   obtain ⟨d, hd⟩ : ∃ d : Nat, n = A.toNat + (c + d) := ⟨n - B.toNat, by omega⟩
   rw [hd, sumN_split, sumN_split (a := c), show (B - A).toNat = c by omega, show (A - B).toNat = 0 by omega]
   rw [sumN_zero (n := A.toNat) (fun j hj => by
     rw [show nh A B j = 0 by unfold nh; rw [if_neg (by omega), if_neg (by omega)]; rfl]; exact ht _ _)]
   rw [sumN_zero (n := d) (fun j hj => by
     rw [show nh A B (A.toNat + (c + j)) = 0 by unfold nh; rw [if_pos (by omega), if_pos (by omega)]; rfl]; exact ht _ _)]
   rw [sumN_congr (n := c) (g' := fun j => t (f (A.toNat + j) 0) (f (A.toNat + j) 1) 1) (fun j hj => by
     rw [show nh A B (A.toNat + j) = 1 by unfold nh; rw [if_pos (by omega), if_neg (by omega)]; rfl])]
   show 0 + (_ + 0) = _ + 0
   omega
 · obtain ⟨c, hc⟩ : ∃ c : Nat, A.toNat = B.toNat + c := ⟨A.toNat - B.toNat, by omega⟩
   obtain ⟨d, hd⟩ : ∃ d : Nat, n = B.toNat + (c + d) := ⟨n - A.toNat, by omega⟩
   rw [hd, sumN_split, sumN_split (a := c), show (A - B).toNat = c by omega, show (B - A).toNat = 0 by omega]
   rw [sumN_zero (n := B.toNat) (fun j hj => by
     rw [show nh A B j = 0 by unfold nh; rw [if_neg (by omega), if_neg (by omega)]; rfl]; exact ht _ _)]
   rw [sumN_zero (n := d) (fun j hj => by
     rw [show nh A B (B.toNat + (c + j)) = 0 by unfold nh; rw [if_pos (by omega), if_pos (by omega)]; rfl]; exact ht _ _)]
   rw [sumN_congr (n := c) (g' := fun j => t (f (B.toNat + j) 0) (f (B.toNat + j) 1) (-1)) (fun j hj => by
     rw [show nh A B (B.toNat + j) = -1 by unfold nh; rw [if_neg (by omega), if_pos (by omega)]; rfl])]
   show 0 + (_ + 0) = 0 + _
   omega
end Nm
namespace Go.Proofs.YtcfmdhlohahhcaaDoor
open Go Go.Sx Nm
set_option maxRecDepth 100000
structure RAsk where
 n : Nat
 f : Nat → Nat → Int
 a : Nat → Int
 b : Nat → Int
 off : Int
 l : Int
 u : Int
 l2 : Int
 u2 : Int
 h : Nat
def RAsk.ok (r : RAsk) : Prop := r.h ≤ r.n ∧ r.n ≤ 24 ∧ (∀ j, j < r.n → -200 ≤ r.f j 0 ∧ r.f j 0 ≤ r.f j 1 ∧ r.f j 1 ≤ 200) ∧ (-40000 ≤ r.off ∧ r.off ≤ 40000) ∧ (-50 ≤ r.l ∧ r.l ≤ r.u ∧ r.u ≤ 50) ∧ (-50 ≤ r.l2 ∧ r.l2 ≤ r.u2 ∧ r.u2 ≤ 50) ∧ (0 ≤ r.a 4 ∧ r.a 4 ≤ 24) ∧ 0 ≤ r.b 4 ∧ r.b 4 ≤ 24
def raLo (r : RAsk) : Int := r.off + rLo r.f (r.a 4) (r.b 4) r.h + (tLo r.l r.u (r.h - r.a 4) + tLo r.l2 r.u2 (r.b 4 - r.h))
def raHi (r : RAsk) : Int := r.off + rHi r.f (r.a 4) (r.b 4) r.h + (tHi r.l r.u (r.h - r.a 4) + tHi r.l2 r.u2 (r.b 4 - r.h))
end Go.Proofs.YtcfmdhlohahhcaaDoor
namespace Go.Proofs.YtcfmdhlohahhcaaDoor
open Go Go.Sx Nm
set_option maxRecDepth 100000
def nearB (lo hi own other gap : Int) : Bool := decide (lo ≤ other + gap) && decide (-own - gap ≤ hi)
structure NAsk where
 lo : Int
 hi : Int
 own : Int
 other : Int
 gap : Int
def NAsk.ok (r : NAsk) : Prop := (0 ≤ r.own ∧ r.own ≤ 2000) ∧ (0 ≤ r.other ∧ r.other ≤ 2000) ∧ 0 ≤ r.gap ∧ r.gap ≤ 500
def lyB (x : Fleet) (i h : Int) : Bool := within i 0 ((x.k : Int) - 1) && within h (x.net i.toNat 4) (x.net i.toNat 5)
structure PAsk where
 x : Fleet
 i : Nat
 k : Nat
 lo : Int
 hi : Int
def PAsk.ok (r : PAsk) : Prop := ChkW r.x ∧ r.x.wf ∧ r.i < r.x.k ∧ r.k < r.x.k
def lg (m : Nat → Int) (s : Int) : Int := if m 3 = s then m 2 else 0
def sNrE : Sig := ⟨PAsk, fun r => [fleetTV r.x, spanTV r.i r.k, spanTV r.lo r.hi, sideE], PAsk.ok, fun r => [.v (.c (.bool (nearB r.lo r.hi (lg (r.x.net r.i) 0) (lg (r.x.net r.k) 0) r.x.gap)))]⟩
theorem q94e (r : sNrE.α) (hr : sNrE.pre r) : CallQ Tryd.prog E0 94 (sNrE.arg r) (sNrE.res r) := by
 obtain ⟨x, i, k, lo, hi⟩ := r
 refine bare_tight E0_ok [(127, sTdN), (123, sTdE), (126, sSl 8), (122, sSl 6), (125, sLg 1), (120, sLg 0), (124, sAt 1), (119, sAt 0), (121, sLong), (55, sNet)] (show SigsOk Tryd.prog E0 [(127, sTdN), (123, sTdE), (126, sSl 8), (122, sSl 6), (125, sLg 1), (120, sLg 0), (124, sAt 1), (119, sAt 0), (121, sLong), (55, sNet)] from ((((((((((SigsOk.nil.cons u55 q55).cons u121 fun x _ => q121 x).cons u119 fun x _ => q119 x).cons u124 fun x _ => q124 x).cons u120 fun x _ => q120 x).cons u125 fun x _ => q125 x).cons u122 fun x _ => q122 x).cons u126 fun x _ => q126 x).cons u123 q123).cons u127 q127)) [] EvensOk.nil runs [] [] [] [] [] [] (fuel := 5) ?_
 refine of_red (q := ∃ (x_1 : Fleet × Int), ((True∧flq x x_1.fst)∧(True∧(↑k : Int) = x_1.snd)∧True)∧((x_1.fst.hE < (4611686018427387904 : Nat)∧x_1.fst.hN < (4611686018427387904 : Nat)∧x_1.fst.k < (4611686018427387904 : Nat))∧(0 : Int)≤x_1.snd∧x_1.snd < (↑x_1.fst.k : Int))∧∃ (x_2 : Nat→Int), ((True∧(((((((((True∧True∧x_1.fst.net x_1.snd.toNat 0 = x_2 0)∧True∧x_1.fst.net x_1.snd.toNat 1 = x_2 1)∧True∧x_1.fst.net x_1.snd.toNat 2 = x_2 2)∧True∧x_1.fst.net x_1.snd.toNat 3 = x_2 3)∧True∧x_1.fst.net x_1.snd.toNat 4 = x_2 4)∧True∧x_1.fst.net x_1.snd.toNat 5 = x_2 5)∧True∧x_1.fst.net x_1.snd.toNat 6 = x_2 6)∧True∧x_1.fst.net x_1.snd.toNat 7 = x_2 7)∧True∧x_1.fst.net x_1.snd.toNat 8 = x_2 8)∧True∧x_1.fst.net x_1.snd.toNat 9 = x_2 9)∧True)∧True∧inRange IntKind.i64 ((if x_2 (3 : Nat) = (0 : Int) then x_2 (2 : Nat) else (0 : Int)) + x.gap)∧(decide (lo≤(if x_2 (3 : Nat) = (0 : Int) then x_2 (2 : Nat) else (0 : Int)) + x.gap) = true→∃ (x_3 : Fleet × Int), ((True∧flq x x_3.fst)∧(True∧(↑i : Int) = x_3.snd)∧True)∧((x_3.fst.hE < (4611686018427387904 : Nat)∧x_3.fst.hN < (4611686018427387904 : Nat)∧x_3.fst.k < (4611686018427387904 : Nat))∧(0 : Int)≤x_3.snd∧x_3.snd < (↑x_3.fst.k : Int))∧∃ (x_4 : Nat→Int), ((True∧(((((((((True∧True∧x_3.fst.net x_3.snd.toNat 0 = x_4 0)∧True∧x_3.fst.net x_3.snd.toNat 1 = x_4 1)∧True∧x_3.fst.net x_3.snd.toNat 2 = x_4 2)∧True∧x_3.fst.net x_3.snd.toNat 3 = x_4 3)∧True∧x_3.fst.net x_3.snd.toNat 4 = x_4 4)∧True∧x_3.fst.net x_3.snd.toNat 5 = x_4 5)∧True∧x_3.fst.net x_3.snd.toNat 6 = x_4 6)∧True∧x_3.fst.net x_3.snd.toNat 7 = x_4 7)∧True∧x_3.fst.net x_3.snd.toNat 8 = x_4 8)∧True∧x_3.fst.net x_3.snd.toNat 9 = x_4 9)∧True)∧True∧inRange IntKind.i64 (-if x_4 (3 : Nat) = (0 : Int) then x_4 (2 : Nat) else (0 : Int))∧inRange IntKind.i64 ((-if x_4 (3 : Nat) = (0 : Int) then x_4 (2 : Nat) else (0 : Int)) - x.gap)∧True∧decide ((-if x_4 (3 : Nat) = (0 : Int) then x_4 (2 : Nat) else (0 : Int)) - x.gap≤hi) = nearB lo hi (lg (x.net i) (0 : Int)) (lg (x.net k) (0 : Int)) x.gap)∧(decide (lo≤(if x_2 (3 : Nat) = (0 : Int) then x_2 (2 : Nat) else (0 : Int)) + x.gap) = false→True∧nearB lo hi (lg (x.net i) (0 : Int)) (lg (x.net k) (0 : Int)) x.gap = false)) (by kernel_rfl) ?_
 simp only [flq, true_and, and_true, inR, Prod.exists, Prod.forall, and_assoc, exists_and_left, exists_eq_left', exists_eq_left, forall_eq, exists_const, forall_const, loopN, loopM, fa2, fas, fas2, dup1, dup2, dup3, dup4, ite_true, exhs, exhn, exhz, exho, exA, ex1, ex2, ex3, ex4, ex5, beqI, bneI, decide_true, Bool.true_and, decide_eq_true_eq, decide_eq_false_iff_not, ne_eq, Decidable.not_not]
 simp only [Int.toNat_natCast, Nat.reduceAdd]
 obtain ⟨hc, ⟨w1, w2, w3⟩, hi', hk⟩ := (show ChkW x ∧ x.wf ∧ i < x.k ∧ k < x.k from hr)
 obtain ⟨_, _, ⟨i1, i2⟩, _⟩ := chkW_net hc hi'
 obtain ⟨_, _, ⟨k1, k2⟩, _⟩ := chkW_net hc hk
 obtain ⟨s1, s2, s3, s4, s5, _⟩ := chkW_size hc
 have lk : 0 ≤ (if x.net k 3 = 0 then x.net k 2 else 0) ∧ (if x.net k 3 = 0 then x.net k 2 else 0) ≤ 2000 := by split <;> omega
 have li : 0 ≤ (if x.net i 3 = 0 then x.net i 2 else 0) ∧ (if x.net i 3 = 0 then x.net i 2 else 0) ≤ 2000 := by split <;> omega
 obtain ⟨lk1, lk2⟩ := lk
 obtain ⟨li1, li2⟩ := li
 refine ⟨x, rfl, fun _ _ => ⟨rfl, rfl⟩, rfl, fun _ _ => ⟨rfl, rfl⟩, rfl, rfl, fun _ _ => ⟨rfl, rfl, rfl, rfl, rfl, rfl, rfl, rfl, rfl, rfl⟩, w1, w2, w3, by omega, by omega, x.net k, rfl, rfl, rfl, rfl, rfl, rfl, rfl, rfl, rfl, rfl, ?_⟩
 unfold lg
 generalize (if x.net k 3 = 0 then x.net k 2 else 0) = p at *
 refine ⟨by omega, by omega, fun h1 => ⟨x, rfl, fun _ _ => ⟨rfl, rfl⟩, rfl, fun _ _ => ⟨rfl, rfl⟩, rfl, rfl, fun _ _ => ⟨rfl, rfl, rfl, rfl, rfl, rfl, rfl, rfl, rfl, rfl⟩, w1, w2, w3, by omega, by omega, x.net i, rfl, rfl, rfl, rfl, rfl, rfl, rfl, rfl, rfl, rfl, ?_⟩, fun h1 => by rw [nearB, decide_eq_false h1, Bool.false_and]⟩
 generalize (if x.net i 3 = 0 then x.net i 2 else 0) = q at *
 exact ⟨by omega, by omega, by omega, by omega, by rw [nearB, decide_eq_true h1, Bool.true_and]⟩
end Go.Proofs.YtcfmdhlohahhcaaDoor
namespace Go.Proofs.YtcfmdhlohahhcaaDoor
open Go Go.Sx Nm
set_option maxRecDepth 100000
structure BAsk where
 x : Fleet
 i : Nat
 k : Nat
 h : Nat
def BAsk.ok (a : BAsk) : Prop := ChkW a.x ∧ a.x.wf ∧ a.i < a.x.k ∧ a.k < a.x.k ∧ a.h ≤ a.x.hE
def rE (x : Fleet) (i k h : Nat) : RAsk := ⟨x.hE, x.e, x.net i, x.net k, x.net i 0 - x.net k 0, x.net i 6, x.net i 7, x.net k 6, x.net k 7, h⟩
def rN (x : Fleet) (i k h : Nat) : RAsk := ⟨x.hN, x.n, x.net i, x.net k, x.net i 1 - x.net k 1, x.net i 8, x.net i 9, x.net k 8, x.net k 9, h⟩
structure FAsk where
 x : Fleet
 i : Nat
 k : Nat
 l : Int
 u : Int
 l2 : Int
 u2 : Int
def FAsk.ok (a : FAsk) : Prop := ChkW a.x ∧ a.x.wf ∧ a.i < a.x.k ∧ a.k < a.x.k
end Go.Proofs.YtcfmdhlohahhcaaDoor
namespace Go.Proofs.YtcfmdhlohahhcaaDoor
open Go Go.Sx Nm
set_option maxRecDepth 100000
end Go.Proofs.YtcfmdhlohahhcaaDoor
namespace Go.Proofs.YtcfmdhlohahhcaaDoor
open Go Go.Sx Nm
set_option maxRecDepth 100000
def sNrN : Sig := ⟨PAsk, fun r => [fleetTV r.x, spanTV r.i r.k, spanTV r.lo r.hi, sideN], PAsk.ok, fun r => [.v (.c (.bool (nearB r.lo r.hi (lg (r.x.net r.i) 1) (lg (r.x.net r.k) 1) r.x.gap)))]⟩
theorem q94n (r : sNrN.α) (hr : sNrN.pre r) : CallQ Tryd.prog E0 94 (sNrN.arg r) (sNrN.res r) := by
 obtain ⟨x, i, k, lo, hi⟩ := r
 refine bare_tight E0_ok [(127, sTdN), (123, sTdE), (126, sSl 8), (122, sSl 6), (125, sLg 1), (120, sLg 0), (124, sAt 1), (119, sAt 0), (121, sLong), (55, sNet)] (show SigsOk Tryd.prog E0 [(127, sTdN), (123, sTdE), (126, sSl 8), (122, sSl 6), (125, sLg 1), (120, sLg 0), (124, sAt 1), (119, sAt 0), (121, sLong), (55, sNet)] from ((((((((((SigsOk.nil.cons u55 q55).cons u121 fun x _ => q121 x).cons u119 fun x _ => q119 x).cons u124 fun x _ => q124 x).cons u120 fun x _ => q120 x).cons u125 fun x _ => q125 x).cons u122 fun x _ => q122 x).cons u126 fun x _ => q126 x).cons u123 q123).cons u127 q127)) [] EvensOk.nil runs [] [] [] [] [] [] (fuel := 5) ?_
 refine of_red (q := ∃ (x_1 : Fleet × Int), ((True∧flq x x_1.fst)∧(True∧(↑k : Int) = x_1.snd)∧True)∧((x_1.fst.hE < (4611686018427387904 : Nat)∧x_1.fst.hN < (4611686018427387904 : Nat)∧x_1.fst.k < (4611686018427387904 : Nat))∧(0 : Int)≤x_1.snd∧x_1.snd < (↑x_1.fst.k : Int))∧∃ (x_2 : Nat→Int), ((True∧(((((((((True∧True∧x_1.fst.net x_1.snd.toNat 0 = x_2 0)∧True∧x_1.fst.net x_1.snd.toNat 1 = x_2 1)∧True∧x_1.fst.net x_1.snd.toNat 2 = x_2 2)∧True∧x_1.fst.net x_1.snd.toNat 3 = x_2 3)∧True∧x_1.fst.net x_1.snd.toNat 4 = x_2 4)∧True∧x_1.fst.net x_1.snd.toNat 5 = x_2 5)∧True∧x_1.fst.net x_1.snd.toNat 6 = x_2 6)∧True∧x_1.fst.net x_1.snd.toNat 7 = x_2 7)∧True∧x_1.fst.net x_1.snd.toNat 8 = x_2 8)∧True∧x_1.fst.net x_1.snd.toNat 9 = x_2 9)∧True)∧True∧inRange IntKind.i64 ((if x_2 (3 : Nat) = (1 : Int) then x_2 (2 : Nat) else (0 : Int)) + x.gap)∧(decide (lo≤(if x_2 (3 : Nat) = (1 : Int) then x_2 (2 : Nat) else (0 : Int)) + x.gap) = true→∃ (x_3 : Fleet × Int), ((True∧flq x x_3.fst)∧(True∧(↑i : Int) = x_3.snd)∧True)∧((x_3.fst.hE < (4611686018427387904 : Nat)∧x_3.fst.hN < (4611686018427387904 : Nat)∧x_3.fst.k < (4611686018427387904 : Nat))∧(0 : Int)≤x_3.snd∧x_3.snd < (↑x_3.fst.k : Int))∧∃ (x_4 : Nat→Int), ((True∧(((((((((True∧True∧x_3.fst.net x_3.snd.toNat 0 = x_4 0)∧True∧x_3.fst.net x_3.snd.toNat 1 = x_4 1)∧True∧x_3.fst.net x_3.snd.toNat 2 = x_4 2)∧True∧x_3.fst.net x_3.snd.toNat 3 = x_4 3)∧True∧x_3.fst.net x_3.snd.toNat 4 = x_4 4)∧True∧x_3.fst.net x_3.snd.toNat 5 = x_4 5)∧True∧x_3.fst.net x_3.snd.toNat 6 = x_4 6)∧True∧x_3.fst.net x_3.snd.toNat 7 = x_4 7)∧True∧x_3.fst.net x_3.snd.toNat 8 = x_4 8)∧True∧x_3.fst.net x_3.snd.toNat 9 = x_4 9)∧True)∧True∧inRange IntKind.i64 (-if x_4 (3 : Nat) = (1 : Int) then x_4 (2 : Nat) else (0 : Int))∧inRange IntKind.i64 ((-if x_4 (3 : Nat) = (1 : Int) then x_4 (2 : Nat) else (0 : Int)) - x.gap)∧True∧decide ((-if x_4 (3 : Nat) = (1 : Int) then x_4 (2 : Nat) else (0 : Int)) - x.gap≤hi) = nearB lo hi (lg (x.net i) (1 : Int)) (lg (x.net k) (1 : Int)) x.gap)∧(decide (lo≤(if x_2 (3 : Nat) = (1 : Int) then x_2 (2 : Nat) else (0 : Int)) + x.gap) = false→True∧nearB lo hi (lg (x.net i) (1 : Int)) (lg (x.net k) (1 : Int)) x.gap = false)) (by kernel_rfl) ?_
 simp only [flq, true_and, and_true, inR, Prod.exists, Prod.forall, and_assoc, exists_and_left, exists_eq_left', exists_eq_left, forall_eq, exists_const, forall_const, loopN, loopM, fa2, fas, fas2, dup1, dup2, dup3, dup4, ite_true, exhs, exhn, exhz, exho, exA, ex1, ex2, ex3, ex4, ex5, beqI, bneI, decide_true, Bool.true_and, decide_eq_true_eq, decide_eq_false_iff_not, ne_eq, Decidable.not_not]
 simp only [Int.toNat_natCast, Nat.reduceAdd]
 obtain ⟨hc, ⟨w1, w2, w3⟩, hi', hk⟩ := (show ChkW x ∧ x.wf ∧ i < x.k ∧ k < x.k from hr)
 obtain ⟨_, _, ⟨i1, i2⟩, _⟩ := chkW_net hc hi'
 obtain ⟨_, _, ⟨k1, k2⟩, _⟩ := chkW_net hc hk
 obtain ⟨s1, s2, s3, s4, s5, _⟩ := chkW_size hc
 have lk : 0 ≤ (if x.net k 3 = 1 then x.net k 2 else 0) ∧ (if x.net k 3 = 1 then x.net k 2 else 0) ≤ 2000 := by split <;> omega
 have li : 0 ≤ (if x.net i 3 = 1 then x.net i 2 else 0) ∧ (if x.net i 3 = 1 then x.net i 2 else 0) ≤ 2000 := by split <;> omega
 obtain ⟨lk1, lk2⟩ := lk
 obtain ⟨li1, li2⟩ := li
 refine ⟨x, rfl, fun _ _ => ⟨rfl, rfl⟩, rfl, fun _ _ => ⟨rfl, rfl⟩, rfl, rfl, fun _ _ => ⟨rfl, rfl, rfl, rfl, rfl, rfl, rfl, rfl, rfl, rfl⟩, w1, w2, w3, by omega, by omega, x.net k, rfl, rfl, rfl, rfl, rfl, rfl, rfl, rfl, rfl, rfl, ?_⟩
 unfold lg
 generalize (if x.net k 3 = 1 then x.net k 2 else 0) = p at *
 refine ⟨by omega, by omega, fun h1 => ⟨x, rfl, fun _ _ => ⟨rfl, rfl⟩, rfl, fun _ _ => ⟨rfl, rfl⟩, rfl, rfl, fun _ _ => ⟨rfl, rfl, rfl, rfl, rfl, rfl, rfl, rfl, rfl, rfl⟩, w1, w2, w3, by omega, by omega, x.net i, rfl, rfl, rfl, rfl, rfl, rfl, rfl, rfl, rfl, rfl, ?_⟩, fun h1 => by rw [nearB, decide_eq_false h1, Bool.false_and]⟩
 generalize (if x.net i 3 = 1 then x.net i 2 else 0) = q at *
 exact ⟨by omega, by omega, by omega, by omega, by rw [nearB, decide_eq_true h1, Bool.true_and]⟩
end Go.Proofs.YtcfmdhlohahhcaaDoor
namespace Go.Proofs.YtcfmdhlohahhcaaDoor
open Go Go.Sx Nm
set_option maxRecDepth 100000
def sideB (b : Nat) : TV := .a 4 (ofList [fnC (119 + 5 * b), fnC (120 + 5 * b), fnC (122 + 4 * b), fnC (123 + 4 * b)])
def td (x : Fleet) (b : Nat) : Nat → Nat → Int := if b = 0 then x.e else x.n
def sAp : Sig := ⟨Ask × Nat, fun a => [fleetTV a.1.x, spanTV a.1.i a.1.k, intC a.1.h, sideB a.2], fun a => a.1.ok ∧ a.2 ≤ 1, fun a => [.v (spanTV (apLo a.1.x (td a.1.x a.2) a.2 (6 + 2 * a.2) a.1.i a.1.k a.1.h) (apHi a.1.x (td a.1.x a.2) a.2 (6 + 2 * a.2) a.1.i a.1.k a.1.h))]⟩
theorem q68 (a : sAp.α) (ha : sAp.pre a) : CallQ Tryd.prog E0 68 (sAp.arg a) (sAp.res a) := by
 obtain ⟨a, b⟩ := a
 obtain ⟨h1, h2⟩ := ha
 have h2 : b ≤ 1 := h2
 match b, h2 with
 | 0, _ => exact q68e a h1
 | 1, _ => exact q68n a h1
def sNe : Sig := ⟨PAsk × Nat, fun r => [fleetTV r.1.x, spanTV r.1.i r.1.k, spanTV r.1.lo r.1.hi, sideB r.2], fun r => r.1.ok ∧ r.2 ≤ 1, fun r => [.v (.c (.bool (nearB r.1.lo r.1.hi (lg (r.1.x.net r.1.i) (r.2 : Int)) (lg (r.1.x.net r.1.k) (r.2 : Int)) r.1.x.gap)))]⟩
theorem q94 (a : sNe.α) (ha : sNe.pre a) : CallQ Tryd.prog E0 94 (sNe.arg a) (sNe.res a) := by
 obtain ⟨a, b⟩ := a
 obtain ⟨h1, h2⟩ := ha
 have h2 : b ≤ 1 := h2
 match b, h2 with
 | 0, _ => exact q94e a h1
 | 1, _ => exact q94n a h1
end Go.Proofs.YtcfmdhlohahhcaaDoor
namespace Go.Proofs.YtcfmdhlohahhcaaDoor
open Go Go.Sx Nm
set_option maxRecDepth 100000
def nearS (a : Ask) (f : Nat → Nat → Int) (b : Nat) : Bool := nearB (apLo a.x f b (6 + 2 * b) a.i a.k a.h) (apHi a.x f b (6 + 2 * b) a.i a.k a.h) (lg (a.x.net a.i) (b : Int)) (lg (a.x.net a.k) (b : Int)) a.x.gap
def canP (a : Ask) : Bool := nearS a a.x.e 0 && nearS a a.x.n 1
def sCanP : Sig := ⟨Ask, fun a => [fleetTV a.x, spanTV a.i a.k, intC a.h], Ask.ok, fun a => [.v (.c (.bool (canP a)))]⟩
theorem q65 (a : sCanP.α) (ha : sCanP.pre a) : CallQ Tryd.prog E0 65 (sCanP.arg a) (sCanP.res a) := by
 obtain ⟨x, i, k, h⟩ := a
 refine bare_tight E0_ok [(94, sNe), (68, sAp)] (show SigsOk Tryd.prog E0 [(94, sNe), (68, sAp)] from ((SigsOk.nil.cons u68 q68).cons u94 q94)) [] EvensOk.nil runs [] [] [] [] [] [] (fuel := 5) ?_
 refine of_red (q := ∃ (x_1 : Ask × Nat), ((True∧flq x x_1.fst.x)∧(True∧(True∧True∧(↑i : Int) = (↑x_1.fst.i : Int))∧True∧(↑k : Int) = (↑x_1.fst.k : Int))∧(True∧h = x_1.fst.h)∧(True∧(((True∧True∧(CV.fn (119 : Nat) [] (fun (x x_2 : Nat) => CV.any) (0 : Nat) fun (x : Nat) => CV.any) = [fnC ((119 : Nat) + (5 : Nat) * x_1.snd), fnC ((120 : Nat) + (5 : Nat) * x_1.snd), fnC ((122 : Nat) + (4 : Nat) * x_1.snd), fnC ((123 : Nat) + (4 : Nat) * x_1.snd)].getD 0 CV.any)∧True∧(CV.fn (120 : Nat) [] (fun (x x_2 : Nat) => CV.any) (0 : Nat) fun (x : Nat) => CV.any) = [fnC ((119 : Nat) + (5 : Nat) * x_1.snd), fnC ((120 : Nat) + (5 : Nat) * x_1.snd), fnC ((122 : Nat) + (4 : Nat) * x_1.snd), fnC ((123 : Nat) + (4 : Nat) * x_1.snd)].getD 1 CV.any)∧True∧(CV.fn (122 : Nat) [] (fun (x x_2 : Nat) => CV.any) (0 : Nat) fun (x : Nat) => CV.any) = [fnC ((119 : Nat) + (5 : Nat) * x_1.snd), fnC ((120 : Nat) + (5 : Nat) * x_1.snd), fnC ((122 : Nat) + (4 : Nat) * x_1.snd), fnC ((123 : Nat) + (4 : Nat) * x_1.snd)].getD 2 CV.any)∧True∧(CV.fn (123 : Nat) [] (fun (x x_2 : Nat) => CV.any) (0 : Nat) fun (x : Nat) => CV.any) = [fnC ((119 : Nat) + (5 : Nat) * x_1.snd), fnC ((120 : Nat) + (5 : Nat) * x_1.snd), fnC ((122 : Nat) + (4 : Nat) * x_1.snd), fnC ((123 : Nat) + (4 : Nat) * x_1.snd)].getD 3 CV.any)∧True)∧((ChkW x_1.fst.x∧(x_1.fst.x.hE < (4611686018427387904 : Nat)∧x_1.fst.x.hN < (4611686018427387904 : Nat)∧x_1.fst.x.k < (4611686018427387904 : Nat))∧x_1.fst.i < x_1.fst.x.k∧x_1.fst.k < x_1.fst.x.k∧(0 : Int)≤x_1.fst.h∧x_1.fst.h≤(24 : Int))∧x_1.snd≤(1 : Nat))∧∃ (x_2 : PAsk × Nat), ((True∧flq x x_2.fst.x)∧(True∧(True∧True∧(↑i : Int) = (↑x_2.fst.i : Int))∧True∧(↑k : Int) = (↑x_2.fst.k : Int))∧(True∧(True∧True∧apLo x_1.fst.x (td x_1.fst.x x_1.snd) x_1.snd ((6 : Nat) + (2 : Nat) * x_1.snd) x_1.fst.i x_1.fst.k x_1.fst.h = x_2.fst.lo)∧True∧apHi x_1.fst.x (td x_1.fst.x x_1.snd) x_1.snd ((6 : Nat) + (2 : Nat) * x_1.snd) x_1.fst.i x_1.fst.k x_1.fst.h = x_2.fst.hi)∧(True∧(((True∧True∧(CV.fn (119 : Nat) [] (fun (x x_3 : Nat) => CV.any) (0 : Nat) fun (x : Nat) => CV.any) = [fnC ((119 : Nat) + (5 : Nat) * x_2.snd), fnC ((120 : Nat) + (5 : Nat) * x_2.snd), fnC ((122 : Nat) + (4 : Nat) * x_2.snd), fnC ((123 : Nat) + (4 : Nat) * x_2.snd)].getD 0 CV.any)∧True∧(CV.fn (120 : Nat) [] (fun (x x_3 : Nat) => CV.any) (0 : Nat) fun (x : Nat) => CV.any) = [fnC ((119 : Nat) + (5 : Nat) * x_2.snd), fnC ((120 : Nat) + (5 : Nat) * x_2.snd), fnC ((122 : Nat) + (4 : Nat) * x_2.snd), fnC ((123 : Nat) + (4 : Nat) * x_2.snd)].getD 1 CV.any)∧True∧(CV.fn (122 : Nat) [] (fun (x x_3 : Nat) => CV.any) (0 : Nat) fun (x : Nat) => CV.any) = [fnC ((119 : Nat) + (5 : Nat) * x_2.snd), fnC ((120 : Nat) + (5 : Nat) * x_2.snd), fnC ((122 : Nat) + (4 : Nat) * x_2.snd), fnC ((123 : Nat) + (4 : Nat) * x_2.snd)].getD 2 CV.any)∧True∧(CV.fn (123 : Nat) [] (fun (x x_3 : Nat) => CV.any) (0 : Nat) fun (x : Nat) => CV.any) = [fnC ((119 : Nat) + (5 : Nat) * x_2.snd), fnC ((120 : Nat) + (5 : Nat) * x_2.snd), fnC ((122 : Nat) + (4 : Nat) * x_2.snd), fnC ((123 : Nat) + (4 : Nat) * x_2.snd)].getD 3 CV.any)∧True)∧((ChkW x_2.fst.x∧(x_2.fst.x.hE < (4611686018427387904 : Nat)∧x_2.fst.x.hN < (4611686018427387904 : Nat)∧x_2.fst.x.k < (4611686018427387904 : Nat))∧x_2.fst.i < x_2.fst.x.k∧x_2.fst.k < x_2.fst.x.k)∧x_2.snd≤(1 : Nat))∧(nearB x_2.fst.lo x_2.fst.hi (lg (x_2.fst.x.net x_2.fst.i) (↑x_2.snd : Int)) (lg (x_2.fst.x.net x_2.fst.k) (↑x_2.snd : Int)) x_2.fst.x.gap = true→∃ (x_3 : Ask × Nat), ((True∧flq x x_3.fst.x)∧(True∧(True∧True∧(↑i : Int) = (↑x_3.fst.i : Int))∧True∧(↑k : Int) = (↑x_3.fst.k : Int))∧(True∧h = x_3.fst.h)∧(True∧(((True∧True∧(CV.fn (124 : Nat) [] (fun (x x_4 : Nat) => CV.any) (0 : Nat) fun (x : Nat) => CV.any) = [fnC ((119 : Nat) + (5 : Nat) * x_3.snd), fnC ((120 : Nat) + (5 : Nat) * x_3.snd), fnC ((122 : Nat) + (4 : Nat) * x_3.snd), fnC ((123 : Nat) + (4 : Nat) * x_3.snd)].getD 0 CV.any)∧True∧(CV.fn (125 : Nat) [] (fun (x x_4 : Nat) => CV.any) (0 : Nat) fun (x : Nat) => CV.any) = [fnC ((119 : Nat) + (5 : Nat) * x_3.snd), fnC ((120 : Nat) + (5 : Nat) * x_3.snd), fnC ((122 : Nat) + (4 : Nat) * x_3.snd), fnC ((123 : Nat) + (4 : Nat) * x_3.snd)].getD 1 CV.any)∧True∧(CV.fn (126 : Nat) [] (fun (x x_4 : Nat) => CV.any) (0 : Nat) fun (x : Nat) => CV.any) = [fnC ((119 : Nat) + (5 : Nat) * x_3.snd), fnC ((120 : Nat) + (5 : Nat) * x_3.snd), fnC ((122 : Nat) + (4 : Nat) * x_3.snd), fnC ((123 : Nat) + (4 : Nat) * x_3.snd)].getD 2 CV.any)∧True∧(CV.fn (127 : Nat) [] (fun (x x_4 : Nat) => CV.any) (0 : Nat) fun (x : Nat) => CV.any) = [fnC ((119 : Nat) + (5 : Nat) * x_3.snd), fnC ((120 : Nat) + (5 : Nat) * x_3.snd), fnC ((122 : Nat) + (4 : Nat) * x_3.snd), fnC ((123 : Nat) + (4 : Nat) * x_3.snd)].getD 3 CV.any)∧True)∧((ChkW x_3.fst.x∧(x_3.fst.x.hE < (4611686018427387904 : Nat)∧x_3.fst.x.hN < (4611686018427387904 : Nat)∧x_3.fst.x.k < (4611686018427387904 : Nat))∧x_3.fst.i < x_3.fst.x.k∧x_3.fst.k < x_3.fst.x.k∧(0 : Int)≤x_3.fst.h∧x_3.fst.h≤(24 : Int))∧x_3.snd≤(1 : Nat))∧∃ (x_4 : PAsk × Nat), ((True∧flq x x_4.fst.x)∧(True∧(True∧True∧(↑i : Int) = (↑x_4.fst.i : Int))∧True∧(↑k : Int) = (↑x_4.fst.k : Int))∧(True∧(True∧True∧apLo x_3.fst.x (td x_3.fst.x x_3.snd) x_3.snd ((6 : Nat) + (2 : Nat) * x_3.snd) x_3.fst.i x_3.fst.k x_3.fst.h = x_4.fst.lo)∧True∧apHi x_3.fst.x (td x_3.fst.x x_3.snd) x_3.snd ((6 : Nat) + (2 : Nat) * x_3.snd) x_3.fst.i x_3.fst.k x_3.fst.h = x_4.fst.hi)∧(True∧(((True∧True∧(CV.fn (124 : Nat) [] (fun (x x_5 : Nat) => CV.any) (0 : Nat) fun (x : Nat) => CV.any) = [fnC ((119 : Nat) + (5 : Nat) * x_4.snd), fnC ((120 : Nat) + (5 : Nat) * x_4.snd), fnC ((122 : Nat) + (4 : Nat) * x_4.snd), fnC ((123 : Nat) + (4 : Nat) * x_4.snd)].getD 0 CV.any)∧True∧(CV.fn (125 : Nat) [] (fun (x x_5 : Nat) => CV.any) (0 : Nat) fun (x : Nat) => CV.any) = [fnC ((119 : Nat) + (5 : Nat) * x_4.snd), fnC ((120 : Nat) + (5 : Nat) * x_4.snd), fnC ((122 : Nat) + (4 : Nat) * x_4.snd), fnC ((123 : Nat) + (4 : Nat) * x_4.snd)].getD 1 CV.any)∧True∧(CV.fn (126 : Nat) [] (fun (x x_5 : Nat) => CV.any) (0 : Nat) fun (x : Nat) => CV.any) = [fnC ((119 : Nat) + (5 : Nat) * x_4.snd), fnC ((120 : Nat) + (5 : Nat) * x_4.snd), fnC ((122 : Nat) + (4 : Nat) * x_4.snd), fnC ((123 : Nat) + (4 : Nat) * x_4.snd)].getD 2 CV.any)∧True∧(CV.fn (127 : Nat) [] (fun (x x_5 : Nat) => CV.any) (0 : Nat) fun (x : Nat) => CV.any) = [fnC ((119 : Nat) + (5 : Nat) * x_4.snd), fnC ((120 : Nat) + (5 : Nat) * x_4.snd), fnC ((122 : Nat) + (4 : Nat) * x_4.snd), fnC ((123 : Nat) + (4 : Nat) * x_4.snd)].getD 3 CV.any)∧True)∧((ChkW x_4.fst.x∧(x_4.fst.x.hE < (4611686018427387904 : Nat)∧x_4.fst.x.hN < (4611686018427387904 : Nat)∧x_4.fst.x.k < (4611686018427387904 : Nat))∧x_4.fst.i < x_4.fst.x.k∧x_4.fst.k < x_4.fst.x.k)∧x_4.snd≤(1 : Nat))∧True∧nearB x_4.fst.lo x_4.fst.hi (lg (x_4.fst.x.net x_4.fst.i) (↑x_4.snd : Int)) (lg (x_4.fst.x.net x_4.fst.k) (↑x_4.snd : Int)) x_4.fst.x.gap = canP { x := x, i := i, k := k, h := h })∧(nearB x_2.fst.lo x_2.fst.hi (lg (x_2.fst.x.net x_2.fst.i) (↑x_2.snd : Int)) (lg (x_2.fst.x.net x_2.fst.k) (↑x_2.snd : Int)) x_2.fst.x.gap = false→True∧canP { x := x, i := i, k := k, h := h } = false)) (by kernel_rfl) ?_
 simp only [flq, true_and, and_true, inR, Prod.exists, Prod.forall, and_assoc, exists_and_left, exists_eq_left', exists_eq_left, forall_eq, exists_const, forall_const, loopN, loopM, fa2, fas, fas2, dup1, dup2, dup3, dup4, ite_true, exhs, exhn, exhz, exho, exA, ex1, ex2, ex3, ex4, ex5, beqI, bneI, decide_true, Bool.true_and, decide_eq_true_eq, decide_eq_false_iff_not, ne_eq, Decidable.not_not]
 obtain ⟨hc, ⟨w1, w2, w3⟩, hi, hk, h0, h24⟩ := (show ChkW x ∧ x.wf ∧ i < x.k ∧ k < x.k ∧ 0 ≤ h ∧ h ≤ 24 from ha)
 refine ⟨⟨x, i, k, h⟩, rfl, fun _ _ => ⟨rfl, rfl⟩, rfl, fun _ _ => ⟨rfl, rfl⟩, rfl, rfl, fun _ _ => ⟨rfl, rfl, rfl, rfl, rfl, rfl, rfl, rfl, rfl, rfl⟩, rfl, rfl, rfl, 0, rfl, rfl, rfl, rfl, hc, w1, w2, w3, hi, hk, h0, h24, by omega, ⟨x, i, k, apLo x x.e 0 6 i k h, apHi x x.e 0 6 i k h⟩, rfl, fun _ _ => ⟨rfl, rfl⟩, rfl, fun _ _ => ⟨rfl, rfl⟩, rfl, rfl, fun _ _ => ⟨rfl, rfl, rfl, rfl, rfl, rfl, rfl, rfl, rfl, rfl⟩, rfl, rfl, rfl, rfl, 0, rfl, rfl, rfl, rfl, hc, w1, w2, w3, hi, hk, by omega, fun h1 => ?_, fun h1 => ?_⟩
 · refine ⟨⟨x, i, k, h⟩, rfl, fun _ _ => ⟨rfl, rfl⟩, rfl, fun _ _ => ⟨rfl, rfl⟩, rfl, rfl, fun _ _ => ⟨rfl, rfl, rfl, rfl, rfl, rfl, rfl, rfl, rfl, rfl⟩, rfl, rfl, rfl, 1, rfl, rfl, rfl, rfl, hc, w1, w2, w3, hi, hk, h0, h24, by omega, ⟨x, i, k, apLo x x.n 1 8 i k h, apHi x x.n 1 8 i k h⟩, rfl, fun _ _ => ⟨rfl, rfl⟩, rfl, fun _ _ => ⟨rfl, rfl⟩, rfl, rfl, fun _ _ => ⟨rfl, rfl, rfl, rfl, rfl, rfl, rfl, rfl, rfl, rfl⟩, rfl, rfl, rfl, rfl, 1, rfl, rfl, rfl, rfl, hc, w1, w2, w3, hi, hk, by omega, ?_⟩
   have h1 : nearS ⟨x, i, k, h⟩ x.e 0 = true := h1
   show nearS ⟨x, i, k, h⟩ x.n 1 = (nearS ⟨x, i, k, h⟩ x.e 0 && nearS ⟨x, i, k, h⟩ x.n 1)
   rw [h1]; rfl
 · have h1 : nearS ⟨x, i, k, h⟩ x.e 0 = false := h1
   show (nearS ⟨x, i, k, h⟩ x.e 0 && nearS ⟨x, i, k, h⟩ x.n 1) = false
   rw [h1]; rfl
end Go.Proofs.YtcfmdhlohahhcaaDoor
namespace Go.Proofs.YtcfmdhlohahhcaaDoor
open Go Go.Sx Nm
theorem ap_same {x : Fleet} {i k h : Nat} (f : Nat → Nat → Int) (p s : Nat) (i0 : 0 ≤ x.net i 4) (k0 : 0 ≤ x.net k 4) (hi : x.net i 4 ≤ h) (hk : x.net k 4 ≤ h) (n : Nat) :
   apLo x f p s i k h = raLo ⟨n, f, x.net i, x.net k, x.net i p - x.net k p, x.net i s, x.net i (s + 1), x.net k s, x.net k (s + 1), h⟩ ∧
   apHi x f p s i k h = raHi ⟨n, f, x.net i, x.net k, x.net i p - x.net k p, x.net i s, x.net i (s + 1), x.net k s, x.net k (s + 1), h⟩ := by
 have e1 := r_same i0 k0 hi hk tLo (fun l u => (t_zero l u).1) f
 have e2 := r_same i0 k0 hi hk tHi (fun l u => (t_zero l u).2) f
 have d1 : rLo f (x.net i 4) (x.net k 4) h = dLo f (x.net i 4) 1 (x.net k 4 - x.net i 4).toNat + dLo f (x.net k 4) (-1) (x.net i 4 - x.net k 4).toNat := e1
 have d2 : rHi f (x.net i 4) (x.net k 4) h = dHi f (x.net i 4) 1 (x.net k 4 - x.net i 4).toNat + dHi f (x.net k 4) (-1) (x.net i 4 - x.net k 4).toNat := e2
 unfold apLo apHi raLo raHi cLo cHi bLo bHi
 simp only [d1, d2]
 constructor <;> omega
end Go.Proofs.YtcfmdhlohahhcaaDoor
namespace Go.Proofs.YtcfmdhlohahhcaaDoor
open Go Go.Sx Nm
set_option maxRecDepth 100000
def opF (x : Fleet) : Fleet := ⟨if Nm.chk x then x.hE else 0, x.e, if Nm.chk x then x.hN else 0, x.n, if Nm.chk x then x.gap else 0, if Nm.chk x then x.k else 0, x.net⟩
def sOpen : Sig := ⟨Fleet, fun x => [fleetTV x], fun x => x.wf, fun x => [.v (fleetTV (opF x)), .v (intC (chkE x))]⟩
theorem q67 (x : Fleet) (h : x.wf) : CallQ Tryd.prog E0 67 (sOpen.arg x) (sOpen.res x) := by
 refine bare_tight E0_ok [(17, sChk)] (show SigsOk Tryd.prog E0 [(17, sChk)] from (SigsOk.nil.cons u17 q17)) [] EvensOk.nil runs [] [] [] [] [] [] (fuel := 5) ?_
 refine of_red (q := ∃ (x_1 : Fleet), ((True∧flq x x_1)∧True)∧(x_1.hE < (4611686018427387904 : Nat)∧x_1.hN < (4611686018427387904 : Nat)∧x_1.k < (4611686018427387904 : Nat))∧((chkE x_1 != (0 : Int)) = true→(True∧(((True∧True∧(opF x).hE = (0 : Nat))∧True∧(opF x).hN = (0 : Nat))∧True∧(0 : Int) = (opF x).gap)∧True∧(opF x).k = (0 : Nat))∧(True∧chkE x_1 = chkE x)∧True)∧((chkE x_1 != (0 : Int)) = false→(True∧(((True∧True∧True∧x.hE = (opF x).hE∧∀ (i : Nat), i < x.hE→(True∧x.e i 0 = (opF x).e i 0)∧x.e i 1 = (opF x).e i 1)∧True∧True∧x.hN = (opF x).hN∧∀ (i : Nat), i < x.hN→(True∧x.n i 0 = (opF x).n i 0)∧x.n i 1 = (opF x).n i 1)∧True∧x.gap = (opF x).gap)∧True∧True∧x.k = (opF x).k∧∀ (i : Nat), i < x.k→(((((((((True∧x.net i 0 = (opF x).net i 0)∧x.net i 1 = (opF x).net i 1)∧x.net i 2 = (opF x).net i 2)∧x.net i 3 = (opF x).net i 3)∧x.net i 4 = (opF x).net i 4)∧x.net i 5 = (opF x).net i 5)∧x.net i 6 = (opF x).net i 6)∧x.net i 7 = (opF x).net i 7)∧x.net i 8 = (opF x).net i 8)∧x.net i 9 = (opF x).net i 9)∧(True∧(0 : Int) = chkE x)∧True)) (by kernel_rfl) ?_
 simp only [flq, true_and, and_true, inR, Prod.exists, Prod.forall, and_assoc, exists_and_left, exists_eq_left', exists_eq_left, forall_eq, exists_const, forall_const, loopN, loopM, fa2, fas, fas2, dup1, dup2, dup3, dup4, ite_true, exhs, exhn, exhz, exho, exA, ex1, ex2, ex3, ex4, ex5, beqI, bneI, decide_true, Bool.true_and, decide_eq_true_eq, decide_eq_false_iff_not, ne_eq, Decidable.not_not]
 obtain ⟨w1, w2, w3⟩ := h
 refine ⟨x, rfl, fun _ _ => ⟨rfl, rfl⟩, rfl, fun _ _ => ⟨rfl, rfl⟩, rfl, rfl, fun _ _ => ⟨rfl, rfl, rfl, rfl, rfl, rfl, rfl, rfl, rfl, rfl⟩, w1, w2, w3, fun e => ?_, fun e => ?_⟩
 · have hc : ¬ Nm.chk x = true := fun hc => e (by unfold chkE; rw [if_pos hc])
   exact ⟨if_neg hc, if_neg hc, (if_neg hc).symm, if_neg hc, rfl⟩
 · have hc : Nm.chk x = true := by
     apply Classical.byContradiction
     intro hc
     unfold chkE at e
     rw [if_neg hc] at e
     cases e
   exact ⟨(if_pos hc).symm, fun _ _ => ⟨rfl, rfl⟩, (if_pos hc).symm, fun _ _ => ⟨rfl, rfl⟩, (if_pos hc).symm, (if_pos hc).symm, fun _ _ => ⟨rfl, rfl, rfl, rfl, rfl, rfl, rfl, rfl, rfl, rfl⟩, e.symm⟩
end Go.Proofs.YtcfmdhlohahhcaaDoor
namespace Go.Proofs.YtcfmdhlohahhcaaDoor
open Go Go.Sx Nm
set_option maxRecDepth 100000
structure QAsk where
 x : Fleet
 i : Int
 k : Int
 h : Int
def aqE (a : QAsk) : Int := if Nm.chk a.x then (if a.i = a.k then 22 else if lyB a.x a.i a.h then (if lyB a.x a.k a.h then 0 else 22) else 22) else 20
def aqR (a : QAsk) (z : Int) : Int := if aqE a = 0 then z else 0
def sApart : Sig := ⟨QAsk, fun a => [fleetTV a.x, intC a.i, intC a.k, intC a.h], fun a => a.x.wf, fun a => [.v (spanTV (aqR a (raLo (rE a.x a.i.toNat a.k.toNat a.h.toNat))) (aqR a (raHi (rE a.x a.i.toNat a.k.toNat a.h.toNat)))), .v (spanTV (aqR a (raLo (rN a.x a.i.toNat a.k.toNat a.h.toNat))) (aqR a (raHi (rN a.x a.i.toNat a.k.toNat a.h.toNat)))), .v (intC (aqE a))]⟩
end Go.Proofs.YtcfmdhlohahhcaaDoor
namespace Go.Proofs.YtcfmdhlohahhcaaDoor
open Go Go.Sx Nm
set_option maxRecDepth 100000
theorem opF_eq {x : Fleet} (hc : Nm.chk x = true) : opF x = x := by
 cases x
 unfold opF
 rw [if_pos hc, if_pos hc, if_pos hc, if_pos hc]
theorem chk_of {x : Fleet} (e : chkE x = 0) : Nm.chk x = true := by
 apply Classical.byContradiction
 intro hc
 unfold chkE at e
 rw [if_neg hc] at e
 cases e
theorem not_chk {x : Fleet} (e : ¬ chkE x = 0) : ¬ Nm.chk x = true ∧ chkE x = 20 := by
 have hc : ¬ Nm.chk x = true := fun hc => e (by unfold chkE; rw [if_pos hc])
 exact ⟨hc, by unfold chkE; rw [if_neg hc]⟩
theorem exF {x : Fleet} {R : Fleet → Prop} (h : R x) : ∃ a : Fleet, x.hE = a.hE ∧ (∀ i, i < x.hE → x.e i 0 = a.e i 0 ∧ x.e i 1 = a.e i 1) ∧ x.hN = a.hN ∧ (∀ i, i < x.hN → x.n i 0 = a.n i 0 ∧ x.n i 1 = a.n i 1) ∧ x.gap = a.gap ∧ x.k = a.k ∧
   (∀ i, i < x.k → x.net i 0 = a.net i 0 ∧ x.net i 1 = a.net i 1 ∧ x.net i 2 = a.net i 2 ∧ x.net i 3 = a.net i 3 ∧ x.net i 4 = a.net i 4 ∧ x.net i 5 = a.net i 5 ∧ x.net i 6 = a.net i 6 ∧ x.net i 7 = a.net i 7 ∧ x.net i 8 = a.net i 8 ∧ x.net i 9 = a.net i 9) ∧ R a :=
 ⟨x, rfl, fun _ _ => ⟨rfl, rfl⟩, rfl, fun _ _ => ⟨rfl, rfl⟩, rfl, rfl, fun _ _ => ⟨rfl, rfl, rfl, rfl, rfl, rfl, rfl, rfl, rfl, rfl⟩, h⟩
theorem exNet {m : Nat → Int} {R : (Nat → Int) → Prop} (h : R m) : ∃ a : Nat → Int, m 0 = a 0 ∧ m 1 = a 1 ∧ m 2 = a 2 ∧ m 3 = a 3 ∧ m 4 = a 4 ∧ m 5 = a 5 ∧ m 6 = a 6 ∧ m 7 = a 7 ∧ m 8 = a 8 ∧ m 9 = a 9 ∧ R a :=
 ⟨m, rfl, rfl, rfl, rfl, rfl, rfl, rfl, rfl, rfl, rfl, h⟩
end Go.Proofs.YtcfmdhlohahhcaaDoor
namespace Go.Proofs.YtcfmdhlohahhcaaDoor
open Go Go.Sx Nm
set_option maxRecDepth 100000
theorem q22 (a : sApart.α) (ha : sApart.pre a) : CallQ Tryd.prog E0 22 (sApart.arg a) (sApart.res a) := by
 obtain ⟨x, i, k, h⟩ := a
 refine bare_say E0_ok [(67, sOpen), (68, sAp), (56, sLie), (55, sNet), (54, sIn)] (show SigsOk Tryd.prog E0 [(67, sOpen), (68, sAp), (56, sLie), (55, sNet), (54, sIn)] from (((((SigsOk.nil.cons u54 fun x _ => q54 x).cons u55 q55).cons u56 fun x _ => q56 x).cons u68 q68).cons u67 q67)) [] EvensOk.nil runs { o := [(22, 3, oT [(8, [3]), (9, [4])]), (22, 6, oT [(8, [2]), (9, [3])]), (22, 8, oT [(8, [10]), (9, [11])])] } (fuel := 5) ?_
 refine of_red (q := ∃ (x_1 : Fleet), ((True∧flq x x_1)∧True)∧(x_1.hE < (4611686018427387904 : Nat)∧x_1.hN < (4611686018427387904 : Nat)∧x_1.k < (4611686018427387904 : Nat))∧((chkE x_1 != (0 : Int)) = true→(True∧(True∧True∧(0 : Int) = aqR { x := x, i := i, k := k, h := h } (raLo (rE x i.toNat k.toNat h.toNat)))∧True∧(0 : Int) = aqR { x := x, i := i, k := k, h := h } (raHi (rE x i.toNat k.toNat h.toNat)))∧(True∧(True∧True∧(0 : Int) = aqR { x := x, i := i, k := k, h := h } (raLo (rN x i.toNat k.toNat h.toNat)))∧True∧(0 : Int) = aqR { x := x, i := i, k := k, h := h } (raHi (rN x i.toNat k.toNat h.toNat)))∧(True∧chkE x_1 = aqE { x := x, i := i, k := k, h := h })∧True)∧((chkE x_1 != (0 : Int)) = false→inRange IntKind.i64 ((↑(opF x_1).k : Int) - (1 : Int))∧∃ (x_2 : Int × Int × Int), ((True∧i = x_2.fst)∧(True∧(0 : Int) = x_2.snd.fst)∧(True∧(↑(opF x_1).k : Int) - (1 : Int) = x_2.snd.snd)∧True)∧True∧((!within x_2.fst x_2.snd.fst x_2.snd.snd) = true→(True∧(True∧True∧(0 : Int) = aqR { x := x, i := i, k := k, h := h } (raLo (rE x i.toNat k.toNat h.toNat)))∧True∧(0 : Int) = aqR { x := x, i := i, k := k, h := h } (raHi (rE x i.toNat k.toNat h.toNat)))∧(True∧(True∧True∧(0 : Int) = aqR { x := x, i := i, k := k, h := h } (raLo (rN x i.toNat k.toNat h.toNat)))∧True∧(0 : Int) = aqR { x := x, i := i, k := k, h := h } (raHi (rN x i.toNat k.toNat h.toNat)))∧(True∧(22 : Int) = aqE { x := x, i := i, k := k, h := h })∧True)∧((!within x_2.fst x_2.snd.fst x_2.snd.snd) = false→∃ (x_3 : Int × Int × Int), ((True∧k = x_3.fst)∧(True∧(0 : Int) = x_3.snd.fst)∧(True∧(↑(opF x_1).k : Int) - (1 : Int) = x_3.snd.snd)∧True)∧True∧((!within x_3.fst x_3.snd.fst x_3.snd.snd) = true→(True∧(True∧True∧(0 : Int) = aqR { x := x, i := i, k := k, h := h } (raLo (rE x i.toNat k.toNat h.toNat)))∧True∧(0 : Int) = aqR { x := x, i := i, k := k, h := h } (raHi (rE x i.toNat k.toNat h.toNat)))∧(True∧(True∧True∧(0 : Int) = aqR { x := x, i := i, k := k, h := h } (raLo (rN x i.toNat k.toNat h.toNat)))∧True∧(0 : Int) = aqR { x := x, i := i, k := k, h := h } (raHi (rN x i.toNat k.toNat h.toNat)))∧(True∧(22 : Int) = aqE { x := x, i := i, k := k, h := h })∧True)∧((!within x_3.fst x_3.snd.fst x_3.snd.snd) = false→((i == k) = true→(True∧(True∧True∧(0 : Int) = aqR { x := x, i := i, k := k, h := h } (raLo (rE x i.toNat k.toNat h.toNat)))∧True∧(0 : Int) = aqR { x := x, i := i, k := k, h := h } (raHi (rE x i.toNat k.toNat h.toNat)))∧(True∧(True∧True∧(0 : Int) = aqR { x := x, i := i, k := k, h := h } (raLo (rN x i.toNat k.toNat h.toNat)))∧True∧(0 : Int) = aqR { x := x, i := i, k := k, h := h } (raHi (rN x i.toNat k.toNat h.toNat)))∧(True∧(22 : Int) = aqE { x := x, i := i, k := k, h := h })∧True)∧((i == k) = false→∃ (x_4 : Fleet × Int), ((True∧(((True∧True∧True∧(opF x_1).hE = x_4.fst.hE∧∀ (i : Nat), i < (opF x_1).hE→(True∧(opF x_1).e i 0 = x_4.fst.e i 0)∧(opF x_1).e i 1 = x_4.fst.e i 1)∧True∧True∧(opF x_1).hN = x_4.fst.hN∧∀ (i : Nat), i < (opF x_1).hN→(True∧(opF x_1).n i 0 = x_4.fst.n i 0)∧(opF x_1).n i 1 = x_4.fst.n i 1)∧True∧(opF x_1).gap = x_4.fst.gap)∧True∧True∧(opF x_1).k = x_4.fst.k∧∀ (i : Nat), i < (opF x_1).k→(((((((((True∧(opF x_1).net i 0 = x_4.fst.net i 0)∧(opF x_1).net i 1 = x_4.fst.net i 1)∧(opF x_1).net i 2 = x_4.fst.net i 2)∧(opF x_1).net i 3 = x_4.fst.net i 3)∧(opF x_1).net i 4 = x_4.fst.net i 4)∧(opF x_1).net i 5 = x_4.fst.net i 5)∧(opF x_1).net i 6 = x_4.fst.net i 6)∧(opF x_1).net i 7 = x_4.fst.net i 7)∧(opF x_1).net i 8 = x_4.fst.net i 8)∧(opF x_1).net i 9 = x_4.fst.net i 9)∧(True∧i = x_4.snd)∧True)∧((x_4.fst.hE < (4611686018427387904 : Nat)∧x_4.fst.hN < (4611686018427387904 : Nat)∧x_4.fst.k < (4611686018427387904 : Nat))∧(0 : Int)≤x_4.snd∧x_4.snd < (↑x_4.fst.k : Int))∧∃ (x_5 : (Nat→Int) × Int), ((True∧(((((((((True∧True∧x_4.fst.net x_4.snd.toNat 0 = x_5.fst 0)∧True∧x_4.fst.net x_4.snd.toNat 1 = x_5.fst 1)∧True∧x_4.fst.net x_4.snd.toNat 2 = x_5.fst 2)∧True∧x_4.fst.net x_4.snd.toNat 3 = x_5.fst 3)∧True∧x_4.fst.net x_4.snd.toNat 4 = x_5.fst 4)∧True∧x_4.fst.net x_4.snd.toNat 5 = x_5.fst 5)∧True∧x_4.fst.net x_4.snd.toNat 6 = x_5.fst 6)∧True∧x_4.fst.net x_4.snd.toNat 7 = x_5.fst 7)∧True∧x_4.fst.net x_4.snd.toNat 8 = x_5.fst 8)∧True∧x_4.fst.net x_4.snd.toNat 9 = x_5.fst 9)∧(True∧h = x_5.snd)∧True)∧True∧((!within x_5.snd (x_5.fst (4 : Nat)) (x_5.fst (5 : Nat))) = true→(True∧(True∧True∧(0 : Int) = aqR { x := x, i := i, k := k, h := h } (raLo (rE x i.toNat k.toNat h.toNat)))∧True∧(0 : Int) = aqR { x := x, i := i, k := k, h := h } (raHi (rE x i.toNat k.toNat h.toNat)))∧(True∧(True∧True∧(0 : Int) = aqR { x := x, i := i, k := k, h := h } (raLo (rN x i.toNat k.toNat h.toNat)))∧True∧(0 : Int) = aqR { x := x, i := i, k := k, h := h } (raHi (rN x i.toNat k.toNat h.toNat)))∧(True∧(22 : Int) = aqE { x := x, i := i, k := k, h := h })∧True)∧((!within x_5.snd (x_5.fst (4 : Nat)) (x_5.fst (5 : Nat))) = false→∃ (x_6 : Fleet × Int), ((True∧(((True∧True∧True∧(opF x_1).hE = x_6.fst.hE∧∀ (i : Nat), i < (opF x_1).hE→(True∧(opF x_1).e i 0 = x_6.fst.e i 0)∧(opF x_1).e i 1 = x_6.fst.e i 1)∧True∧True∧(opF x_1).hN = x_6.fst.hN∧∀ (i : Nat), i < (opF x_1).hN→(True∧(opF x_1).n i 0 = x_6.fst.n i 0)∧(opF x_1).n i 1 = x_6.fst.n i 1)∧True∧(opF x_1).gap = x_6.fst.gap)∧True∧True∧(opF x_1).k = x_6.fst.k∧∀ (i : Nat), i < (opF x_1).k→(((((((((True∧(opF x_1).net i 0 = x_6.fst.net i 0)∧(opF x_1).net i 1 = x_6.fst.net i 1)∧(opF x_1).net i 2 = x_6.fst.net i 2)∧(opF x_1).net i 3 = x_6.fst.net i 3)∧(opF x_1).net i 4 = x_6.fst.net i 4)∧(opF x_1).net i 5 = x_6.fst.net i 5)∧(opF x_1).net i 6 = x_6.fst.net i 6)∧(opF x_1).net i 7 = x_6.fst.net i 7)∧(opF x_1).net i 8 = x_6.fst.net i 8)∧(opF x_1).net i 9 = x_6.fst.net i 9)∧(True∧k = x_6.snd)∧True)∧((x_6.fst.hE < (4611686018427387904 : Nat)∧x_6.fst.hN < (4611686018427387904 : Nat)∧x_6.fst.k < (4611686018427387904 : Nat))∧(0 : Int)≤x_6.snd∧x_6.snd < (↑x_6.fst.k : Int))∧∃ (x_7 : (Nat→Int) × Int), ((True∧(((((((((True∧True∧x_6.fst.net x_6.snd.toNat 0 = x_7.fst 0)∧True∧x_6.fst.net x_6.snd.toNat 1 = x_7.fst 1)∧True∧x_6.fst.net x_6.snd.toNat 2 = x_7.fst 2)∧True∧x_6.fst.net x_6.snd.toNat 3 = x_7.fst 3)∧True∧x_6.fst.net x_6.snd.toNat 4 = x_7.fst 4)∧True∧x_6.fst.net x_6.snd.toNat 5 = x_7.fst 5)∧True∧x_6.fst.net x_6.snd.toNat 6 = x_7.fst 6)∧True∧x_6.fst.net x_6.snd.toNat 7 = x_7.fst 7)∧True∧x_6.fst.net x_6.snd.toNat 8 = x_7.fst 8)∧True∧x_6.fst.net x_6.snd.toNat 9 = x_7.fst 9)∧(True∧h = x_7.snd)∧True)∧True∧((!within x_7.snd (x_7.fst (4 : Nat)) (x_7.fst (5 : Nat))) = true→(True∧(True∧True∧(0 : Int) = aqR { x := x, i := i, k := k, h := h } (raLo (rE x i.toNat k.toNat h.toNat)))∧True∧(0 : Int) = aqR { x := x, i := i, k := k, h := h } (raHi (rE x i.toNat k.toNat h.toNat)))∧(True∧(True∧True∧(0 : Int) = aqR { x := x, i := i, k := k, h := h } (raLo (rN x i.toNat k.toNat h.toNat)))∧True∧(0 : Int) = aqR { x := x, i := i, k := k, h := h } (raHi (rN x i.toNat k.toNat h.toNat)))∧(True∧(22 : Int) = aqE { x := x, i := i, k := k, h := h })∧True)∧((!within x_7.snd (x_7.fst (4 : Nat)) (x_7.fst (5 : Nat))) = false→∃ (x_8 : Ask × Nat), ((True∧(((True∧True∧True∧(opF x_1).hE = x_8.fst.x.hE∧∀ (i : Nat), i < (opF x_1).hE→(True∧(opF x_1).e i 0 = x_8.fst.x.e i 0)∧(opF x_1).e i 1 = x_8.fst.x.e i 1)∧True∧True∧(opF x_1).hN = x_8.fst.x.hN∧∀ (i : Nat), i < (opF x_1).hN→(True∧(opF x_1).n i 0 = x_8.fst.x.n i 0)∧(opF x_1).n i 1 = x_8.fst.x.n i 1)∧True∧(opF x_1).gap = x_8.fst.x.gap)∧True∧True∧(opF x_1).k = x_8.fst.x.k∧∀ (i : Nat), i < (opF x_1).k→(((((((((True∧(opF x_1).net i 0 = x_8.fst.x.net i 0)∧(opF x_1).net i 1 = x_8.fst.x.net i 1)∧(opF x_1).net i 2 = x_8.fst.x.net i 2)∧(opF x_1).net i 3 = x_8.fst.x.net i 3)∧(opF x_1).net i 4 = x_8.fst.x.net i 4)∧(opF x_1).net i 5 = x_8.fst.x.net i 5)∧(opF x_1).net i 6 = x_8.fst.x.net i 6)∧(opF x_1).net i 7 = x_8.fst.x.net i 7)∧(opF x_1).net i 8 = x_8.fst.x.net i 8)∧(opF x_1).net i 9 = x_8.fst.x.net i 9)∧(True∧(True∧True∧i = (↑x_8.fst.i : Int))∧True∧k = (↑x_8.fst.k : Int))∧(True∧h = x_8.fst.h)∧(True∧(((True∧True∧(CV.fn (119 : Nat) [] (fun (x x_9 : Nat) => CV.any) (0 : Nat) fun (x : Nat) => CV.any) = [fnC ((119 : Nat) + (5 : Nat) * x_8.snd), fnC ((120 : Nat) + (5 : Nat) * x_8.snd), fnC ((122 : Nat) + (4 : Nat) * x_8.snd), fnC ((123 : Nat) + (4 : Nat) * x_8.snd)].getD 0 CV.any)∧True∧(CV.fn (120 : Nat) [] (fun (x x_9 : Nat) => CV.any) (0 : Nat) fun (x : Nat) => CV.any) = [fnC ((119 : Nat) + (5 : Nat) * x_8.snd), fnC ((120 : Nat) + (5 : Nat) * x_8.snd), fnC ((122 : Nat) + (4 : Nat) * x_8.snd), fnC ((123 : Nat) + (4 : Nat) * x_8.snd)].getD 1 CV.any)∧True∧(CV.fn (122 : Nat) [] (fun (x x_9 : Nat) => CV.any) (0 : Nat) fun (x : Nat) => CV.any) = [fnC ((119 : Nat) + (5 : Nat) * x_8.snd), fnC ((120 : Nat) + (5 : Nat) * x_8.snd), fnC ((122 : Nat) + (4 : Nat) * x_8.snd), fnC ((123 : Nat) + (4 : Nat) * x_8.snd)].getD 2 CV.any)∧True∧(CV.fn (123 : Nat) [] (fun (x x_9 : Nat) => CV.any) (0 : Nat) fun (x : Nat) => CV.any) = [fnC ((119 : Nat) + (5 : Nat) * x_8.snd), fnC ((120 : Nat) + (5 : Nat) * x_8.snd), fnC ((122 : Nat) + (4 : Nat) * x_8.snd), fnC ((123 : Nat) + (4 : Nat) * x_8.snd)].getD 3 CV.any)∧True)∧((ChkW x_8.fst.x∧(x_8.fst.x.hE < (4611686018427387904 : Nat)∧x_8.fst.x.hN < (4611686018427387904 : Nat)∧x_8.fst.x.k < (4611686018427387904 : Nat))∧x_8.fst.i < x_8.fst.x.k∧x_8.fst.k < x_8.fst.x.k∧(0 : Int)≤x_8.fst.h∧x_8.fst.h≤(24 : Int))∧x_8.snd≤(1 : Nat))∧∃ (x_9 : Ask × Nat), ((True∧(((True∧True∧True∧(opF x_1).hE = x_9.fst.x.hE∧∀ (i : Nat), i < (opF x_1).hE→(True∧(opF x_1).e i 0 = x_9.fst.x.e i 0)∧(opF x_1).e i 1 = x_9.fst.x.e i 1)∧True∧True∧(opF x_1).hN = x_9.fst.x.hN∧∀ (i : Nat), i < (opF x_1).hN→(True∧(opF x_1).n i 0 = x_9.fst.x.n i 0)∧(opF x_1).n i 1 = x_9.fst.x.n i 1)∧True∧(opF x_1).gap = x_9.fst.x.gap)∧True∧True∧(opF x_1).k = x_9.fst.x.k∧∀ (i : Nat), i < (opF x_1).k→(((((((((True∧(opF x_1).net i 0 = x_9.fst.x.net i 0)∧(opF x_1).net i 1 = x_9.fst.x.net i 1)∧(opF x_1).net i 2 = x_9.fst.x.net i 2)∧(opF x_1).net i 3 = x_9.fst.x.net i 3)∧(opF x_1).net i 4 = x_9.fst.x.net i 4)∧(opF x_1).net i 5 = x_9.fst.x.net i 5)∧(opF x_1).net i 6 = x_9.fst.x.net i 6)∧(opF x_1).net i 7 = x_9.fst.x.net i 7)∧(opF x_1).net i 8 = x_9.fst.x.net i 8)∧(opF x_1).net i 9 = x_9.fst.x.net i 9)∧(True∧(True∧True∧i = (↑x_9.fst.i : Int))∧True∧k = (↑x_9.fst.k : Int))∧(True∧h = x_9.fst.h)∧(True∧(((True∧True∧(CV.fn (124 : Nat) [] (fun (x x_10 : Nat) => CV.any) (0 : Nat) fun (x : Nat) => CV.any) = [fnC ((119 : Nat) + (5 : Nat) * x_9.snd), fnC ((120 : Nat) + (5 : Nat) * x_9.snd), fnC ((122 : Nat) + (4 : Nat) * x_9.snd), fnC ((123 : Nat) + (4 : Nat) * x_9.snd)].getD 0 CV.any)∧True∧(CV.fn (125 : Nat) [] (fun (x x_10 : Nat) => CV.any) (0 : Nat) fun (x : Nat) => CV.any) = [fnC ((119 : Nat) + (5 : Nat) * x_9.snd), fnC ((120 : Nat) + (5 : Nat) * x_9.snd), fnC ((122 : Nat) + (4 : Nat) * x_9.snd), fnC ((123 : Nat) + (4 : Nat) * x_9.snd)].getD 1 CV.any)∧True∧(CV.fn (126 : Nat) [] (fun (x x_10 : Nat) => CV.any) (0 : Nat) fun (x : Nat) => CV.any) = [fnC ((119 : Nat) + (5 : Nat) * x_9.snd), fnC ((120 : Nat) + (5 : Nat) * x_9.snd), fnC ((122 : Nat) + (4 : Nat) * x_9.snd), fnC ((123 : Nat) + (4 : Nat) * x_9.snd)].getD 2 CV.any)∧True∧(CV.fn (127 : Nat) [] (fun (x x_10 : Nat) => CV.any) (0 : Nat) fun (x : Nat) => CV.any) = [fnC ((119 : Nat) + (5 : Nat) * x_9.snd), fnC ((120 : Nat) + (5 : Nat) * x_9.snd), fnC ((122 : Nat) + (4 : Nat) * x_9.snd), fnC ((123 : Nat) + (4 : Nat) * x_9.snd)].getD 3 CV.any)∧True)∧((ChkW x_9.fst.x∧(x_9.fst.x.hE < (4611686018427387904 : Nat)∧x_9.fst.x.hN < (4611686018427387904 : Nat)∧x_9.fst.x.k < (4611686018427387904 : Nat))∧x_9.fst.i < x_9.fst.x.k∧x_9.fst.k < x_9.fst.x.k∧(0 : Int)≤x_9.fst.h∧x_9.fst.h≤(24 : Int))∧x_9.snd≤(1 : Nat))∧(True∧(True∧True∧apLo x_8.fst.x (td x_8.fst.x x_8.snd) x_8.snd ((6 : Nat) + (2 : Nat) * x_8.snd) x_8.fst.i x_8.fst.k x_8.fst.h = aqR { x := x, i := i, k := k, h := h } (raLo (rE x i.toNat k.toNat h.toNat)))∧True∧apHi x_8.fst.x (td x_8.fst.x x_8.snd) x_8.snd ((6 : Nat) + (2 : Nat) * x_8.snd) x_8.fst.i x_8.fst.k x_8.fst.h = aqR { x := x, i := i, k := k, h := h } (raHi (rE x i.toNat k.toNat h.toNat)))∧(True∧(True∧True∧apLo x_9.fst.x (td x_9.fst.x x_9.snd) x_9.snd ((6 : Nat) + (2 : Nat) * x_9.snd) x_9.fst.i x_9.fst.k x_9.fst.h = aqR { x := x, i := i, k := k, h := h } (raLo (rN x i.toNat k.toNat h.toNat)))∧True∧apHi x_9.fst.x (td x_9.fst.x x_9.snd) x_9.snd ((6 : Nat) + (2 : Nat) * x_9.snd) x_9.fst.i x_9.fst.k x_9.fst.h = aqR { x := x, i := i, k := k, h := h } (raHi (rN x i.toNat k.toNat h.toNat)))∧(True∧(0 : Int) = aqE { x := x, i := i, k := k, h := h })∧True))))))) (by kernel_rfl) ?_
 simp only [flq, true_and, and_true, inR, Prod.exists, Prod.forall, and_assoc, exists_and_left, exists_eq_left', exists_eq_left, forall_eq, exists_const, forall_const, loopN, loopM, fa2, fas, fas2, dup1, dup2, dup3, dup4, ite_true, exhs, exhn, exhz, exho, exA, ex1, ex2, ex3, ex4, ex5, beqI, bneI, decide_true, Bool.true_and, decide_eq_true_eq, decide_eq_false_iff_not, ne_eq, Decidable.not_not]
 obtain ⟨w1, w2, w3⟩ := (show x.wf from ha)
 have no : ∀ v : Int, v ≠ 0 → aqE ⟨x, i, k, h⟩ = v → ∀ t, 0 = aqR ⟨x, i, k, h⟩ t := fun v hv e t => by
   unfold aqR; rw [if_neg (by rw [e]; exact hv)]
 refine exF ⟨w1, w2, w3, fun e => ?_, fun e => ?_⟩
 · obtain ⟨hc, e20⟩ := not_chk e
   have ev : aqE ⟨x, i, k, h⟩ = 20 := by unfold aqE; exact if_neg hc
   have z := no 20 (by decide) ev
   exact ⟨z _, z _, z _, z _, by rw [ev, e20]⟩
 · have hc := chk_of e
   rw [opF_eq hc]
   obtain ⟨s1, s2, s3, s4, s5, s6, s7⟩ := chk_size hc
   have fin : aqE ⟨x, i, k, h⟩ = 22 → 0 = aqR ⟨x, i, k, h⟩ (raLo (rE x i.toNat k.toNat h.toNat)) ∧ 0 = aqR ⟨x, i, k, h⟩ (raHi (rE x i.toNat k.toNat h.toNat)) ∧ 0 = aqR ⟨x, i, k, h⟩ (raLo (rN x i.toNat k.toNat h.toNat)) ∧ 0 = aqR ⟨x, i, k, h⟩ (raHi (rN x i.toNat k.toNat h.toNat)) ∧ 22 = aqE ⟨x, i, k, h⟩ := fun ev => by
     have z := no 22 (by decide) ev
     exact ⟨z _, z _, z _, z _, ev.symm⟩
   have lyE : aqE ⟨x, i, k, h⟩ = if i = k then 22 else if lyB x i h then (if lyB x k h then 0 else 22) else 22 := by unfold aqE; exact if_pos hc
   have ly : ∀ j, lyB x j h = (within j 0 ((x.k : Int) - 1) && within h (x.net j.toNat 4) (x.net j.toNat 5)) := fun _ => rfl
   refine ⟨by omega, by omega, fun h1 => fin ?_, fun h1 => ⟨fun h2 => fin ?_, fun h2 => ⟨fun h3 => fin ?_, fun h3 => ?_⟩⟩⟩
   · rw [Bool.not_eq_true'] at h1
     rw [lyE, ly i, h1]; simp
   · rw [Bool.not_eq_true'] at h2
     rw [lyE, ly k, h2]; simp
   · rw [lyE, if_pos h3]
   · rw [Bool.not_eq_false'] at h1 h2
     have g1 := Nm.within_iff.1 h1
     have g2 := Nm.within_iff.1 h2
     refine exF ⟨w1, w2, w3, g1.1, by omega, exNet ⟨fun h4 => fin ?_, fun h4 => exF ⟨w1, w2, w3, g2.1, by omega, exNet ⟨fun h5 => fin ?_, fun h5 => ?_⟩⟩⟩⟩
     · rw [Bool.not_eq_true'] at h4
       rw [lyE, ly i, h4]; simp
     · rw [Bool.not_eq_true'] at h5
       rw [lyE, ly k, h5]; simp
     · rw [Bool.not_eq_false'] at h4 h5
       have ev : aqE ⟨x, i, k, h⟩ = 0 := by rw [lyE, if_neg h3, ly i, ly k, h1, h2, h4, h5]; rfl
       have z : ∀ t, aqR ⟨x, i, k, h⟩ t = t := fun t => by unfold aqR; rw [if_pos ev]
       have g4 := Nm.within_iff.1 h4
       have g5 := Nm.within_iff.1 h5
       obtain ⟨_, _, _, _, ⟨i3, _⟩, ⟨_, i5⟩, _⟩ := chk_net hc (i := i.toNat) (by omega)
       obtain ⟨_, _, _, _, ⟨k3, _⟩, ⟨_, k5⟩, _⟩ := chk_net hc (i := k.toNat) (by omega)
       have hh : h = ((h.toNat : Nat) : Int) := by omega
       obtain ⟨a1, a2⟩ := ap_same (x := x) (i := i.toNat) (k := k.toNat) (h := h.toNat) x.e 0 6 i3 k3 (by omega) (by omega) x.hE
       obtain ⟨b1, b2⟩ := ap_same (x := x) (i := i.toNat) (k := k.toNat) (h := h.toNat) x.n 1 8 i3 k3 (by omega) (by omega) x.hN
       rw [← hh] at a1 a2 b1 b2
       simp only [z, ev]
       exact ⟨⟨x, i.toNat, k.toNat, h⟩, rfl, fun _ _ => ⟨rfl, rfl⟩, rfl, fun _ _ => ⟨rfl, rfl⟩, rfl, rfl, fun _ _ => ⟨rfl, rfl, rfl, rfl, rfl, rfl, rfl, rfl, rfl, rfl⟩, by show i = ((i.toNat : Nat) : Int); omega, by show k = ((k.toNat : Nat) : Int); omega, rfl, 0, rfl, rfl, rfl, rfl, chkW_of hc, w1, w2, w3, by show i.toNat < x.k; omega, by show k.toNat < x.k; omega, by show 0 ≤ h; omega, by show h ≤ 24; omega, by omega,
         ⟨x, i.toNat, k.toNat, h⟩, rfl, fun _ _ => ⟨rfl, rfl⟩, rfl, fun _ _ => ⟨rfl, rfl⟩, rfl, rfl, fun _ _ => ⟨rfl, rfl, rfl, rfl, rfl, rfl, rfl, rfl, rfl, rfl⟩, by show i = ((i.toNat : Nat) : Int); omega, by show k = ((k.toNat : Nat) : Int); omega, rfl, 1, rfl, rfl, rfl, rfl, chkW_of hc, w1, w2, w3, by show i.toNat < x.k; omega, by show k.toNat < x.k; omega, by show 0 ≤ h; omega, by show h ≤ 24; omega, by omega, a1, a2, b1, b2, trivial⟩
end Go.Proofs.YtcfmdhlohahhcaaDoor
