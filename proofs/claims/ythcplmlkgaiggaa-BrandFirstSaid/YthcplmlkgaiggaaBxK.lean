/- The law of the first barrel, as a contract. -/
import Derived.Test.YthcplmlkgaiggaaBxF
import Derived.Test.YthcplmlkgaiggaaBxSpec6
set_option linter.unusedSimpArgs false
set_option linter.unusedVariables false
namespace Go.Proofs.Ythcplmlkgaiggaa
open Go Go.Sx Bm
set_option maxRecDepth 100000

def fN (n : Nat → Int) : Nat := (2 + n 0 % 24).toNat
def fb (n : Nat → Int) : Nat := (n 1 % ((fN n : Int) + 1)).toNat
def fo (n : Nat → Int) : Nat := (1 + n 2 % (fN n : Int)).toNat
def fa (n : Nat → Int) : Nat := (n 3 % ((fo n : Int) + 1)).toNat
def aFw (n : Nat → Int) : Ann := { G := Int × Int, ok := fun _ g => WithOk (fN n) (fb n) (fo n) (fa n) g.1 g.2, dom := fun st => [osN (st.tm 9)], tm := fun _ _ => [], hp := fun st g => [(osN (st.tm 9), .self, some (.box 2 (ofList [.int .i64 g.1, .int .i64 g.2])))], mu := fun _ _ => 0 }
def aFt (n : Nat → Int) : Ann := { G := Int × Int, ok := fun _ g => WoutOk (fN n) (fb n) (fo n) (fa n) g.1 g.2, dom := fun st => [osN (st.tm 10)], tm := fun _ _ => [], hp := fun st g => [(osN (st.tm 10), .self, some (.box 2 (ofList [.int .i64 g.1, .int .i64 g.2])))], mu := fun _ _ => 0 }
def aF0 (n : Nat → Int) : Ann := { G := Unit, ok := fun _ _ => True, dom := fun _ => [], tm := fun _ _ => [(3, .t (intC (fN n))), (4, .t (intC (fb n))), (5, .t (intC (fo n))), (6, .t (intC (fa n)))], hp := fun _ _ => [], mu := fun _ _ => 0 }
def sLaw9 : Sig := ⟨Nat → Int, fun n => [arrTV 4 n], fun _ => True, fun _ => [.v (.c (.bool true))]⟩
theorem q9 (n : sLaw9.α) : CallQ Try.prog E0 9 (sLaw9.arg n) (sLaw9.res n) := by
  refine bare_tight E0_ok TF TF_ok V5 V5_ok runs [] [(9, 5, aF0 n), (9, 15, aFw n), (9, 20, aFt n)] [] [] [] [] (fuel := 5) ?_
  refine of_red (q := (0 : Int) ≤ (0 : Int) ∧ (0 : Int) < (↑(4 : Nat) : Int) ∧ ∃ (x : Int × Int), ((True ∧ n ((0 : Nat) + (0 : Nat) * (1 : Nat) + (0 : Nat) + (0 : Nat)) = x.fst) ∧ (True ∧ (24 : Int) = x.snd) ∧ True) ∧ ((1 : Int) ≤ x.snd ∧ x.snd ≤ (1000 : Int)) ∧ inRange IntKind.i64 ((2 : Int) + x.fst % x.snd) ∧ (0 : Int) ≤ (1 : Int) ∧ (1 : Int) < (↑(4 : Nat) : Int) ∧ inRange IntKind.i64 ((2 : Int) + x.fst % x.snd + (1 : Int)) ∧ ∃ (x_1 : Int × Int), ((True ∧ n ((0 : Nat) + (1 : Nat) * (1 : Nat) + (0 : Nat) + (0 : Nat)) = x_1.fst) ∧ (True ∧ (2 : Int) + x.fst % x.snd + (1 : Int) = x_1.snd) ∧ True) ∧ ((1 : Int) ≤ x_1.snd ∧ x_1.snd ≤ (1000 : Int)) ∧ (0 : Int) ≤ (2 : Int) ∧ (2 : Int) < (↑(4 : Nat) : Int) ∧ ∃ (x_2 : Int × Int), ((True ∧ n ((0 : Nat) + (2 : Nat) * (1 : Nat) + (0 : Nat) + (0 : Nat)) = x_2.fst) ∧ (True ∧ (2 : Int) + x.fst % x.snd = x_2.snd) ∧ True) ∧ ((1 : Int) ≤ x_2.snd ∧ x_2.snd ≤ (1000 : Int)) ∧ inRange IntKind.i64 ((1 : Int) + x_2.fst % x_2.snd) ∧ ((0 : Int) ≤ (3 : Int) ∧ (3 : Int) < (↑(4 : Nat) : Int) ∧ inRange IntKind.i64 ((1 : Int) + x_2.fst % x_2.snd + (1 : Int)) ∧ ∃ (x_3 : Int × Int), ((True ∧ n ((0 : Nat) + (3 : Nat) * (1 : Nat) + (0 : Nat) + (0 : Nat)) = x_3.fst) ∧ (True ∧ (1 : Int) + x_2.fst % x_2.snd + (1 : Int) = x_3.snd) ∧ True) ∧ ((1 : Int) ≤ x_3.snd ∧ x_3.snd ≤ (1000 : Int)) ∧ ∃ (g : Unit), True ∧ True ∧ ((True ∧ (2 : Int) + x.fst % x.snd = (↑(fN n) : Int)) ∧ (True ∧ x_1.fst % x_1.snd = (↑(fb n) : Int)) ∧ (True ∧ (1 : Int) + x_2.fst % x_2.snd = (↑(fo n) : Int)) ∧ (True ∧ x_3.fst % x_3.snd = (↑(fa n) : Int)) ∧ True) ∧ True) ∧ ∀ (g : Unit), True → ∃ (x : Int × Int), ((True ∧ (↑(fo n) : Int) = x.fst) ∧ (True ∧ (↑(fa n) : Int) = x.snd) ∧ True) ∧ True ∧ ∃ (x_3 : Int × Int × Int × Int), ((True ∧ (↑(fN n) : Int) = x_3.fst) ∧ (True ∧ (↑(fb n) : Int) = x_3.snd.fst) ∧ (True ∧ (True ∧ True ∧ x.fst = x_3.snd.snd.fst) ∧ True ∧ x.snd = x_3.snd.snd.snd) ∧ True) ∧ True ∧ ((oddsE x_3.fst x_3.snd.fst x_3.snd.snd.fst x_3.snd.snd.snd != (0 : Int)) = true → True ∧ true = false) ∧ ((oddsE x_3.fst x_3.snd.fst x_3.snd.snd.fst x_3.snd.snd.snd != (0 : Int)) = false → (decide (oddsIn x_3.fst x_3.snd.fst x_3.snd.snd.fst x_3.snd.snd.snd < (1 : Int)) = true → True ∧ true = false) ∧ (decide (oddsIn x_3.fst x_3.snd.fst x_3.snd.snd.fst x_3.snd.snd.snd < (1 : Int)) = false → ∃ (x : Int × Int × Int), ((True ∧ oddsOf x_3.fst x_3.snd.fst x_3.snd.snd.fst x_3.snd.snd.snd = x.fst) ∧ (True ∧ (0 : Int) = x.snd.fst) ∧ (True ∧ oddsIn x_3.fst x_3.snd.fst x_3.snd.snd.fst x_3.snd.snd.snd = x.snd.snd) ∧ True) ∧ True ∧ ((!within x.fst x.snd.fst x.snd.snd) = true → True ∧ true = false) ∧ ((!within x.fst x.snd.fst x.snd.snd) = false → ((decide ((0 : Int) < (↑(fb n) : Int)) = true → (decide ((0 : Int) < (↑(fa n) : Int)) = true → inRange IntKind.i64 ((↑(fN n) : Int) - (1 : Int)) ∧ inRange IntKind.i64 ((↑(fb n) : Int) - (1 : Int)) ∧ inRange IntKind.i64 ((↑(fo n) : Int) - (1 : Int)) ∧ inRange IntKind.i64 ((↑(fo n) : Int) - (1 : Int)) ∧ inRange IntKind.i64 ((↑(fa n) : Int) - (1 : Int)) ∧ ∃ (x : Int × Int), ((True ∧ (↑(fo n) : Int) - (1 : Int) = x.fst) ∧ (True ∧ imin ((↑(fo n) : Int) - (1 : Int)) ((↑(fa n) : Int) - (1 : Int)) = x.snd) ∧ True) ∧ True ∧ ∃ (x_4 : Int × Int × Int × Int), ((True ∧ (↑(fN n) : Int) - (1 : Int) = x_4.fst) ∧ (True ∧ (↑(fb n) : Int) - (1 : Int) = x_4.snd.fst) ∧ (True ∧ (True ∧ True ∧ x.fst = x_4.snd.snd.fst) ∧ True ∧ x.snd = x_4.snd.snd.snd) ∧ True) ∧ True ∧ ((oddsE x_4.fst x_4.snd.fst x_4.snd.snd.fst x_4.snd.snd.snd != (0 : Int)) = true → True ∧ true = false) ∧ ((oddsE x_4.fst x_4.snd.fst x_4.snd.snd.fst x_4.snd.snd.snd != (0 : Int)) = false → ∃ (g : Int × Int), WithOk (fN n) (fb n) (fo n) (fa n) g.fst g.snd ∧ True ∧ True ∧ (True ∧ (True ∧ True ∧ oddsOf x_4.fst x_4.snd.fst x_4.snd.snd.fst x_4.snd.snd.snd = g.fst) ∧ True ∧ oddsIn x_4.fst x_4.snd.fst x_4.snd.snd.fst x_4.snd.snd.snd = g.snd) ∧ True)) ∧ (decide ((0 : Int) < (↑(fa n) : Int)) = false → (((↑(fo n) : Int) == (↑(fa n) : Int)) = true → inRange IntKind.i64 ((↑(fN n) : Int) - (1 : Int)) ∧ inRange IntKind.i64 ((↑(fb n) : Int) - (1 : Int)) ∧ inRange IntKind.i64 ((↑(fo n) : Int) - (1 : Int)) ∧ inRange IntKind.i64 ((↑(fo n) : Int) - (1 : Int)) ∧ inRange IntKind.i64 ((↑(fa n) : Int) - (1 : Int)) ∧ ∃ (x : Int × Int), ((True ∧ (↑(fo n) : Int) - (1 : Int) = x.fst) ∧ (True ∧ imin ((↑(fo n) : Int) - (1 : Int)) ((↑(fa n) : Int) - (1 : Int)) = x.snd) ∧ True) ∧ True ∧ ∃ (x_4 : Int × Int × Int × Int), ((True ∧ (↑(fN n) : Int) - (1 : Int) = x_4.fst) ∧ (True ∧ (↑(fb n) : Int) - (1 : Int) = x_4.snd.fst) ∧ (True ∧ (True ∧ True ∧ x.fst = x_4.snd.snd.fst) ∧ True ∧ x.snd = x_4.snd.snd.snd) ∧ True) ∧ True ∧ ((oddsE x_4.fst x_4.snd.fst x_4.snd.snd.fst x_4.snd.snd.snd != (0 : Int)) = true → True ∧ true = false) ∧ ((oddsE x_4.fst x_4.snd.fst x_4.snd.snd.fst x_4.snd.snd.snd != (0 : Int)) = false → ∃ (g : Int × Int), WithOk (fN n) (fb n) (fo n) (fa n) g.fst g.snd ∧ True ∧ True ∧ (True ∧ (True ∧ True ∧ oddsOf x_4.fst x_4.snd.fst x_4.snd.snd.fst x_4.snd.snd.snd = g.fst) ∧ True ∧ oddsIn x_4.fst x_4.snd.fst x_4.snd.snd.fst x_4.snd.snd.snd = g.snd) ∧ True)) ∧ (((↑(fo n) : Int) == (↑(fa n) : Int)) = false → ∃ (g : Int × Int), WithOk (fN n) (fb n) (fo n) (fa n) g.fst g.snd ∧ True ∧ True ∧ (True ∧ (True ∧ True ∧ (0 : Int) = g.fst) ∧ True ∧ (1 : Int) = g.snd) ∧ True))) ∧ (decide ((0 : Int) < (↑(fb n) : Int)) = false → ∃ (g : Int × Int), WithOk (fN n) (fb n) (fo n) (fa n) g.fst g.snd ∧ True ∧ True ∧ (True ∧ (True ∧ True ∧ (0 : Int) = g.fst) ∧ True ∧ (1 : Int) = g.snd) ∧ True)) ∧ ∀ (g : Int × Int), WithOk (fN n) (fb n) (fo n) (fa n) g.fst g.snd → ((decide ((↑(fb n) : Int) < (↑(fN n) : Int)) = true → inRange IntKind.i64 ((↑(fN n) : Int) - (1 : Int)) ∧ inRange IntKind.i64 ((↑(fo n) : Int) - (1 : Int)) ∧ inRange IntKind.i64 ((↑(fo n) : Int) - (1 : Int)) ∧ ∃ (x : Int × Int), ((True ∧ (↑(fo n) : Int) - (1 : Int) = x.fst) ∧ (True ∧ imin ((↑(fo n) : Int) - (1 : Int)) (↑(fa n) : Int) = x.snd) ∧ True) ∧ True ∧ ∃ (x_4 : Int × Int × Int × Int), ((True ∧ (↑(fN n) : Int) - (1 : Int) = x_4.fst) ∧ (True ∧ (↑(fb n) : Int) = x_4.snd.fst) ∧ (True ∧ (True ∧ True ∧ x.fst = x_4.snd.snd.fst) ∧ True ∧ x.snd = x_4.snd.snd.snd) ∧ True) ∧ True ∧ ((oddsE x_4.fst x_4.snd.fst x_4.snd.snd.fst x_4.snd.snd.snd != (0 : Int)) = true → True ∧ true = false) ∧ ((oddsE x_4.fst x_4.snd.fst x_4.snd.snd.fst x_4.snd.snd.snd != (0 : Int)) = false → ∃ (g : Int × Int), WoutOk (fN n) (fb n) (fo n) (fa n) g.fst g.snd ∧ True ∧ True ∧ (True ∧ (True ∧ True ∧ oddsOf x_4.fst x_4.snd.fst x_4.snd.snd.fst x_4.snd.snd.snd = g.fst) ∧ True ∧ oddsIn x_4.fst x_4.snd.fst x_4.snd.snd.fst x_4.snd.snd.snd = g.snd) ∧ True)) ∧ (decide ((↑(fb n) : Int) < (↑(fN n) : Int)) = false → ∃ (g : Int × Int), WoutOk (fN n) (fb n) (fo n) (fa n) g.fst g.snd ∧ True ∧ True ∧ (True ∧ (True ∧ True ∧ (0 : Int) = g.fst) ∧ True ∧ (1 : Int) = g.snd) ∧ True)) ∧ ∀ (g_1 : Int × Int), WoutOk (fN n) (fb n) (fo n) (fa n) g_1.fst g_1.snd → (decide (g.snd < (1 : Int)) = true → (decide ((0 : Int) < g.snd) = true → (decide ((0 : Int) < g_1.snd) = true → ∃ (x : Unit), True ∧ True ∧ True ∧ true = true) ∧ (decide ((0 : Int) < g_1.snd) = false → True ∧ true = false)) ∧ (decide ((0 : Int) < g.snd) = false → True ∧ true = false)) ∧ (decide (g.snd < (1 : Int)) = false → (decide (g_1.snd < (1 : Int)) = true → (decide ((0 : Int) < g.snd) = true → (decide ((0 : Int) < g_1.snd) = true → ∃ (x : Unit), True ∧ True ∧ True ∧ true = true) ∧ (decide ((0 : Int) < g_1.snd) = false → True ∧ true = false)) ∧ (decide ((0 : Int) < g.snd) = false → True ∧ true = false)) ∧ (decide (g_1.snd < (1 : Int)) = false → (decide ((6000000 : Int) < g.snd) = true → (decide ((0 : Int) < g.snd) = true → (decide ((0 : Int) < g_1.snd) = true → ∃ (x : Unit), True ∧ True ∧ True ∧ true = true) ∧ (decide ((0 : Int) < g_1.snd) = false → True ∧ true = false)) ∧ (decide ((0 : Int) < g.snd) = false → True ∧ true = false)) ∧ (decide ((6000000 : Int) < g.snd) = false → (decide ((6000000 : Int) < g_1.snd) = true → (decide ((0 : Int) < g.snd) = true → (decide ((0 : Int) < g_1.snd) = true → ∃ (x : Unit), True ∧ True ∧ True ∧ true = true) ∧ (decide ((0 : Int) < g_1.snd) = false → True ∧ true = false)) ∧ (decide ((0 : Int) < g.snd) = false → True ∧ true = false)) ∧ (decide ((6000000 : Int) < g_1.snd) = false → (decide ((6000000 : Int) < oddsIn x_3.fst x_3.snd.fst x_3.snd.snd.fst x_3.snd.snd.snd) = true → (decide ((0 : Int) < g.snd) = true → (decide ((0 : Int) < g_1.snd) = true → ∃ (x : Unit), True ∧ True ∧ True ∧ true = true) ∧ (decide ((0 : Int) < g_1.snd) = false → True ∧ true = false)) ∧ (decide ((0 : Int) < g.snd) = false → True ∧ true = false)) ∧ (decide ((6000000 : Int) < oddsIn x_3.fst x_3.snd.fst x_3.snd.snd.fst x_3.snd.snd.snd) = false → ∃ (x : Nat × Nat), ((True ∧ g.snd = (↑x.fst : Int)) ∧ (True ∧ g_1.snd = (↑x.snd : Int)) ∧ True) ∧ (x.fst ≤ (1099511627776 : Nat) ∧ x.snd ≤ (1099511627776 : Nat)) ∧ (↑(x.fst.gcd x.snd) : Int) ≠ (0 : Int) ∧ inRange IntKind.i64 (g.snd.tdiv (↑(x.fst.gcd x.snd) : Int)) ∧ inRange IntKind.i64 (g.snd.tdiv (↑(x.fst.gcd x.snd) : Int) * g_1.snd) ∧ (decide ((1000000000 : Int) < g.snd.tdiv (↑(x.fst.gcd x.snd) : Int) * g_1.snd) = true → ∃ (x : Unit), True ∧ True ∧ True ∧ true = true) ∧ (decide ((1000000000 : Int) < g.snd.tdiv (↑(x.fst.gcd x.snd) : Int) * g_1.snd) = false → inRange IntKind.i64 ((↑(fb n) : Int) * g.fst) ∧ g.snd ≠ (0 : Int) ∧ inRange IntKind.i64 ((g.snd.tdiv (↑(x.fst.gcd x.snd) : Int) * g_1.snd).tdiv g.snd) ∧ inRange IntKind.i64 ((↑(fb n) : Int) * g.fst * (g.snd.tdiv (↑(x.fst.gcd x.snd) : Int) * g_1.snd).tdiv g.snd) ∧ inRange IntKind.i64 ((↑(fN n) : Int) - (↑(fb n) : Int)) ∧ inRange IntKind.i64 (((↑(fN n) : Int) - (↑(fb n) : Int)) * g_1.fst) ∧ g_1.snd ≠ (0 : Int) ∧ inRange IntKind.i64 ((g.snd.tdiv (↑(x.fst.gcd x.snd) : Int) * g_1.snd).tdiv g_1.snd) ∧ inRange IntKind.i64 (((↑(fN n) : Int) - (↑(fb n) : Int)) * g_1.fst * (g.snd.tdiv (↑(x.fst.gcd x.snd) : Int) * g_1.snd).tdiv g_1.snd) ∧ inRange IntKind.i64 ((↑(fb n) : Int) * g.fst * (g.snd.tdiv (↑(x.fst.gcd x.snd) : Int) * g_1.snd).tdiv g.snd + ((↑(fN n) : Int) - (↑(fb n) : Int)) * g_1.fst * (g.snd.tdiv (↑(x.fst.gcd x.snd) : Int) * g_1.snd).tdiv g_1.snd) ∧ inRange IntKind.i64 ((↑(fN n) : Int) * (g.snd.tdiv (↑(x.fst.gcd x.snd) : Int) * g_1.snd)) ∧ ∃ (x_4 : Nat × Nat), ((True ∧ (↑(fb n) : Int) * g.fst * (g.snd.tdiv (↑(x.fst.gcd x.snd) : Int) * g_1.snd).tdiv g.snd + ((↑(fN n) : Int) - (↑(fb n) : Int)) * g_1.fst * (g.snd.tdiv (↑(x.fst.gcd x.snd) : Int) * g_1.snd).tdiv g_1.snd = (↑x_4.fst : Int)) ∧ (True ∧ (↑(fN n) : Int) * (g.snd.tdiv (↑(x.fst.gcd x.snd) : Int) * g_1.snd) = (↑x_4.snd : Int)) ∧ True) ∧ (x_4.fst ≤ (1099511627776 : Nat) ∧ x_4.snd ≤ (1099511627776 : Nat)) ∧ (↑(x_4.fst.gcd x_4.snd) : Int) ≠ (0 : Int) ∧ inRange IntKind.i64 (((↑(fb n) : Int) * g.fst * (g.snd.tdiv (↑(x.fst.gcd x.snd) : Int) * g_1.snd).tdiv g.snd + ((↑(fN n) : Int) - (↑(fb n) : Int)) * g_1.fst * (g.snd.tdiv (↑(x.fst.gcd x.snd) : Int) * g_1.snd).tdiv g_1.snd).tdiv (↑(x_4.fst.gcd x_4.snd) : Int)) ∧ inRange IntKind.i64 ((↑(fN n) : Int) * (g.snd.tdiv (↑(x.fst.gcd x.snd) : Int) * g_1.snd)) ∧ (↑(x_4.fst.gcd x_4.snd) : Int) ≠ (0 : Int) ∧ inRange IntKind.i64 (((↑(fN n) : Int) * (g.snd.tdiv (↑(x.fst.gcd x.snd) : Int) * g_1.snd)).tdiv (↑(x_4.fst.gcd x_4.snd) : Int)) ∧ ∃ (x_5 : Int × Int), ((True ∧ ((↑(fb n) : Int) * g.fst * (g.snd.tdiv (↑(x.fst.gcd x.snd) : Int) * g_1.snd).tdiv g.snd + ((↑(fN n) : Int) - (↑(fb n) : Int)) * g_1.fst * (g.snd.tdiv (↑(x.fst.gcd x.snd) : Int) * g_1.snd).tdiv g_1.snd).tdiv (↑(x_4.fst.gcd x_4.snd) : Int) = x_5.fst) ∧ (True ∧ ((↑(fN n) : Int) * (g.snd.tdiv (↑(x.fst.gcd x.snd) : Int) * g_1.snd)).tdiv (↑(x_4.fst.gcd x_4.snd) : Int) = x_5.snd) ∧ True) ∧ True ∧ ((oddsOf x_3.fst x_3.snd.fst x_3.snd.snd.fst x_3.snd.snd.snd == x_5.fst && (oddsIn x_3.fst x_3.snd.fst x_3.snd.snd.fst x_3.snd.snd.snd == x_5.snd && true)) = true → ∃ (x : Unit), True ∧ True ∧ True ∧ true = true) ∧ ((oddsOf x_3.fst x_3.snd.fst x_3.snd.snd.fst x_3.snd.snd.snd == x_5.fst && (oddsIn x_3.fst x_3.snd.fst x_3.snd.snd.fst x_3.snd.snd.snd == x_5.snd && true)) = false → True ∧ true = false))))))))))) (by kernel_rfl) ?_
  simp only [true_and, and_true, inR, Prod.exists, Prod.forall, and_assoc, exists_and_left, exists_eq_left', exists_eq_left, forall_eq, exists_const, forall_const, loopN, loopM, fa2, fas, fas2, dup1, dup2, dup3, dup4, ite_true, exhs, exhn, exhz, exho, exs1, exn1, exz1, exo1, exs2, exn2, exz2, exo2, exs3, exn3, exz3, exo3, exs4, exn4, exz4, exo4, exs5, exn5, exz5, exo5, exs6, exn6, exz6, exo6, exs7, exn7, exz7, exo7, exs8, exn8, exz8, exo8, exs9, exn9, exz9, exo9, ex1, ex2, ex3, ex4, ex5, beqI, bneI, decide_true, Bool.true_and, decide_eq_true_eq, decide_eq_false_iff_not, ne_eq, Decidable.not_not]
  simp only [Nat.reduceAdd, Nat.reduceMul]
  have HN : 2 + n 0 % 24 = (fN n : Int) := by unfold fN; omega
  have N1 : 2 ≤ fN n := by omega
  have N2 : fN n ≤ 25 := by omega
  have Hb : n 1 % ((fN n : Int) + 1) = fb n := by
    unfold fb
    have := Int.emod_nonneg (n 1) (b := (fN n : Int) + 1) (by omega)
    omega
  have b1 : fb n ≤ fN n := by
    have := Int.emod_lt_of_pos (n 1) (b := (fN n : Int) + 1) (by omega)
    omega
  have Ho : 1 + n 2 % (fN n : Int) = fo n := by
    unfold fo
    have := Int.emod_nonneg (n 2) (b := (fN n : Int)) (by omega)
    omega
  have o2 : fo n ≤ fN n := by
    have := Int.emod_lt_of_pos (n 2) (b := (fN n : Int)) (by omega)
    omega
  have o1 : 1 ≤ fo n := by
    have := Int.emod_nonneg (n 2) (b := (fN n : Int)) (by omega)
    omega
  have Ha : n 3 % ((fo n : Int) + 1) = fa n := by
    unfold fa
    have := Int.emod_nonneg (n 3) (b := (fo n : Int) + 1) (by omega)
    omega
  have a1 : fa n ≤ fo n := by
    have := Int.emod_lt_of_pos (n 3) (b := (fo n : Int) + 1) (by omega)
    omega
  simp only [HN, Hb, Ho, Ha]
  generalize fN n = N at *
  generalize fb n = b at *
  generalize fo n = o at *
  generalize fa n = a at *
  iterate 24 (refine ⟨by omega, ?_⟩)
  refine ⟨trivial, trivial, trivial, trivial, ?_⟩
  obtain ⟨E, _, p, q, _, q1, q2, q3, _, _, e3, e4⟩ := odds_at (N := N) (b := b) (o := o) (a := a) (by omega) (by omega) b1 o2 a1
  have W : within (p : Int) 0 q = true := Bm.within_iff.2 (by omega)
  have Q : ¬ (q : Int) < 1 := by omega
  simp only [E, e3, e4, W, Q, not_true_eq_false, not_false_eq_true, false_implies, true_implies, true_and, and_true, Bool.not_true, Bool.false_eq_true]
  have cN : (N : Int) - 1 = ((N - 1 : Nat) : Int) := by omega
  have co : (o : Int) - 1 = ((o - 1 : Nat) : Int) := by omega
  refine ⟨fun hb0 => ⟨fun ha0 => ?_, fun ha0 => ⟨fun e => absurd e (by omega), fun _ => ⟨_, _, with_none (by omega), rfl, rfl⟩⟩⟩, fun hb0 => ⟨_, _, with_none (by omega), rfl, rfl⟩, fun w x hW => ⟨fun hbN => ?_, fun hbN => ⟨_, _, wout_none (by omega), rfl, rfl⟩, fun t y hT => ?_⟩⟩
  · obtain ⟨s1, s2⟩ := with_some N1 (by omega) b1 o1 o2 a1 (by omega)
    have cb : (b : Int) - 1 = ((b - 1 : Nat) : Int) := by omega
    have ca : (a : Int) - 1 = ((a - 1 : Nat) : Int) := by omega
    have ci : imin ((o - 1 : Nat) : Int) ((a - 1 : Nat) : Int) = ((a - 1 : Nat) : Int) := by unfold imin; split <;> omega
    simp only [cN, co, cb, ca, ci]
    iterate 10 (refine ⟨by omega, ?_⟩)
    exact ⟨fun h => absurd s1 h, fun _ => ⟨_, _, s2, rfl, rfl⟩⟩
  · obtain ⟨s1, s2⟩ := wout_some N1 (by omega) b1 o1 o2 a1 (by omega)
    have ci : imin ((o - 1 : Nat) : Int) (a : Int) = ((min (o - 1) a : Nat) : Int) := by unfold imin; split <;> omega
    simp only [cN, co, ci]
    iterate 6 (refine ⟨by omega, ?_⟩)
    exact ⟨fun h => absurd s1 h, fun _ => ⟨_, _, s2, rfl, rfl⟩⟩
  · obtain ⟨wO, wI, rfl, rfl, w1, w2, w3, w4, w5⟩ := hW.out
    obtain ⟨tO, tI, rfl, rfl, t1, t2, t3, t4, t5⟩ := hT.out
    have p1 : (0 : Int) < wI := by omega
    have p2 : (0 : Int) < tI := by omega
    have p3 : ¬ (wI : Int) < 1 := by omega
    have p4 : ¬ (tI : Int) < 1 := by omega
    simp only [p1, p2, p3, p4, not_true_eq_false, not_false_eq_true, false_implies, true_implies, implies_true, true_and, and_true]
    intro s1 s2 s3
    have td : ∀ m k : Nat, (m : Int).tdiv k = ((m / k : Nat) : Int) := fun _ _ => rfl
    have g0 : 0 < Nat.gcd wI tI := Nat.gcd_pos_of_pos_left _ w3
    have g1 := Nat.div_le_self wI (Nat.gcd wI tI)
    have g6 : (0 : Int) ≤ ((wI / Nat.gcd wI tI : Nat) : Int) := Int.natCast_nonneg _
    have sb : (N : Int) - b = ((N - b : Nat) : Int) := by omega
    refine ⟨wI, rfl, tI, rfl, w5, t5, by omega, ?_⟩
    simp only [td, sb, ← Int.natCast_mul, ← Int.natCast_add]
    have g2 : wI / Nat.gcd wI tI * tI ≤ 36000000000000 := Nat.le_trans (Nat.mul_le_mul (show _ ≤ 6000000 by omega) (show tI ≤ 6000000 by omega)) (by decide)
    generalize hL : wI / Nat.gcd wI tI * tI = L at *
    refine ⟨by omega, by omega, by omega, by omega, fun s4 => ?_⟩
    obtain ⟨f1, f2, f3, f4, f5, f6, f7, f8, f9, f10⟩ := first_small (N := N) (b := b) N2 b1 w3 t3 w4 t4 hL.symm (by omega)
    obtain ⟨r1, r2⟩ := first_red (N := N) (b := b) (o := o) (a := a) N1 (by omega) b1 o1 o2 a1 ⟨w1, w2⟩ ⟨t1, t2⟩ w3 t3 hL.symm rfl
    rw [e3] at r1
    rw [e4] at r2
    generalize b * wO * (L / wI) = S1 at *
    generalize (N - b) * tO * (L / tI) = S2 at *
    generalize b * wO = S3 at *
    generalize (N - b) * tO = S4 at *
    generalize L / wI = S5 at *
    generalize L / tI = S6 at *
    have h0 : 0 < N * L := Nat.mul_pos (by omega) f3
    generalize N * L = S7 at *
    have g3 : 0 < Nat.gcd (S1 + S2) S7 := Nat.gcd_pos_of_pos_right _ h0
    have g4 := Nat.div_le_self (S1 + S2) (Nat.gcd (S1 + S2) S7)
    have g5 := Nat.div_le_self S7 (Nat.gcd (S1 + S2) S7)
    have g7 : (0 : Int) ≤ (((S1 + S2) / Nat.gcd (S1 + S2) S7 : Nat) : Int) := Int.natCast_nonneg _
    have g8 : (0 : Int) ≤ ((S7 / Nat.gcd (S1 + S2) S7 : Nat) : Int) := Int.natCast_nonneg _
    iterate 20 (refine ⟨by omega, ?_⟩)
    refine ⟨S1 + S2, rfl, S7, rfl, by omega, by omega, by omega, by omega, by omega, by omega, by omega, by omega, by omega, by omega, ?_⟩
    rw [r1, r2]
    simp
end Go.Proofs.Ythcplmlkgaiggaa
