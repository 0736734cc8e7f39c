/- Contracts of the small functions. -/
import Derived.Test.YthofpbnbjkdpaaaDoorCxEnv
import Derived.Test.YthofpbnbjkdpaaaDoorCxMath
set_option linter.unusedSimpArgs false
set_option linter.unusedVariables false
namespace Go.Proofs.YthofpbnbjkdpaaaDoor
open Go Go.Sx Cm
set_option maxRecDepth 100000

theorem runs (f : Nat) (h : (lookFn fnTab f).isSome = true) : ∃ fn c, Tryd.prog.funcs[f]? = some fn ∧ (fn.name == "runtime.NumGoroutine") = false ∧ fn.body = some c := fn_runs h

def sIn : Sig := ⟨Int × Int × Int, fun x => [intC x.1, intC x.2.1, intC x.2.2], fun _ => True, fun x => [.v (.c (.bool (within x.1 x.2.1 x.2.2)))]⟩
theorem q35 (x : sIn.α) : CallQ Tryd.prog E0 35 (sIn.arg x) (sIn.res x) := by
  refine bare_with E0_ok [] SigsOk.nil runs [] [] (fuel := 5) ?_
  refine of_red (q := (decide (x.snd.fst ≤ x.fst) = true → True ∧ decide (x.fst ≤ x.snd.snd) = within x.fst x.snd.fst x.snd.snd) ∧ (decide (x.snd.fst ≤ x.fst) = false → True ∧ within x.fst x.snd.fst x.snd.snd = false)) (by kernel_rfl) ?_
  simp [within]
  try omega

theorem q44 (x : sIn.α) : CallQ Tryd.prog E0 44 (sIn.arg x) (sIn.res x) := by
  refine bare_with E0_ok [] SigsOk.nil runs [] [] (fuel := 5) ?_
  refine of_red (q := (decide (x.snd.fst ≤ x.fst) = true → True ∧ decide (x.fst ≤ x.snd.snd) = within x.fst x.snd.fst x.snd.snd) ∧ (decide (x.snd.fst ≤ x.fst) = false → True ∧ within x.fst x.snd.fst x.snd.snd = false)) (by kernel_rfl) ?_
  simp [within]
  try omega

def sMod : Sig := ⟨Int × Int, fun x => [intC x.1, intC x.2], fun x => 0 < x.2 ∧ x.2 ≤ 9223372036854775807, fun x => [.v (intC (x.1 % x.2))]⟩
theorem q31 (x : sMod.α) (h : sMod.pre x) : CallQ Tryd.prog E0 31 (sMod.arg x) (sMod.res x) := by
  refine bare_with E0_ok [] SigsOk.nil runs [] [] (fuel := 5) ?_
  refine of_red (q := x.snd ≠ (0 : Int) ∧ (decide (x.fst.tmod x.snd < (0 : Int)) = true → inRange IntKind.i64 (x.fst.tmod x.snd + x.snd) ∧ True ∧ x.fst.tmod x.snd + x.snd = x.fst % x.snd) ∧ (decide (x.fst.tmod x.snd < (0 : Int)) = false → True ∧ x.fst.tmod x.snd = x.fst % x.snd)) (by kernel_rfl) ?_
  obtain ⟨h0, h1⟩ := h
  have e := Int.tmod_eq_emod (a := x.1) (b := x.2)
  have e1 := Int.emod_nonneg x.1 (b := x.2) (by omega)
  have e2 := Int.emod_lt_of_pos x.1 (b := x.2) h0
  simp only [true_and, inR, decide_eq_true_eq, decide_eq_false_iff_not]
  split at e <;> refine ⟨by omega, fun h => ?_, fun h => ?_⟩ <;> omega

def aSum (n : Nat) (f : Nat → Int) : Ann := { G := Nat, ok := fun _ i => i ≤ n, dom := fun _ => [], tm := fun _ i => [(3, .t (intC (sumN i f))), (4, .t (intC i))], hp := fun _ _ => [], mu := fun _ i => n - i }
def sSum : Sig := ⟨Nat × (Nat → Int), fun x => [.c (nums x.1 x.2)], fun x => x.1 < 4611686018427387904 ∧ ∀ k, k ≤ x.1 → inRange .i64 (sumN k x.2), fun x => [.v (intC (sumN x.1 x.2))]⟩
theorem q37 (x : sSum.α) (h : sSum.pre x) : CallQ Tryd.prog E0 37 (sSum.arg x) (sSum.res x) := by
  refine bare_with E0_ok [] SigsOk.nil runs [(37, 3, aSum x.1 x.2)] [] (fuel := 5) ?_
  refine of_red (q := (∃ (g : Nat), g ≤ x.fst ∧ True ∧ ((True ∧ (0 : Int) = sumN g x.snd) ∧ (True ∧ (0 : Int) = (↑g : Int)) ∧ True) ∧ True) ∧ ∀ (g : Nat), g ≤ x.fst → (decide ((↑g : Int) < (↑x.fst : Int)) = true → (0 : Int) ≤ (↑g : Int) ∧ (↑g : Int) < (↑x.fst : Int) ∧ inRange IntKind.i64 (sumN g x.snd + x.snd g) ∧ inRange IntKind.i64 ((↑g : Int) + (1 : Int)) ∧ ∃ (g' : Nat), g' ≤ x.fst ∧ x.fst - g' < x.fst - g ∧ True ∧ ((True ∧ sumN g x.snd + x.snd g = sumN g' x.snd) ∧ (True ∧ (↑g : Int) + (1 : Int) = (↑g' : Int)) ∧ True) ∧ True) ∧ (decide ((↑g : Int) < (↑x.fst : Int)) = false → True ∧ sumN g x.snd = sumN x.fst x.snd)) (by kernel_rfl) ?_
  obtain ⟨h0, h1⟩ := h
  simp only [true_and, and_true, inR, decide_eq_true_eq, decide_eq_false_iff_not] at *
  refine ⟨⟨0, by omega, by simp [sumN], rfl⟩, fun i hi => ⟨fun hlt => ?_, fun hlt => ?_⟩⟩
  · have := h1 (i + 1) (by omega)
    exact ⟨by omega, hlt, this, by omega, i + 1, by omega, by omega, rfl, by omega⟩
  · obtain rfl : i = x.1 := (by omega)
    rfl

def aSum2 (n : Nat) (f : Nat → Int) : Ann := { G := Nat, ok := fun _ i => i ≤ n, dom := fun _ => [], tm := fun _ i => [(2, .t (intC (sumN i f))), (7, .t (intC i))], hp := fun _ _ => [], mu := fun _ i => n - i }
theorem q58 (x : sSum.α) (h : sSum.pre x) : CallQ Tryd.prog E0 58 (sSum.arg x) (sSum.res x) := by
  refine bare_with E0_ok [] SigsOk.nil runs [(58, 2, aSum2 x.1 x.2)] [] (fuel := 5) ?_
  refine of_red (q := (∃ (g : Nat), g ≤ x.fst ∧ True ∧ ((True ∧ (0 : Int) = sumN g x.snd) ∧ (True ∧ (0 : Int) = (↑g : Int)) ∧ True) ∧ True) ∧ ∀ (g : Nat), g ≤ x.fst → (decide ((↑g : Int) < (↑x.fst : Int)) = true → (0 : Int) ≤ (↑g : Int) ∧ (↑g : Int) < (↑x.fst : Int) ∧ inRange IntKind.i64 (sumN g x.snd + x.snd g) ∧ inRange IntKind.i64 ((↑g : Int) + (1 : Int)) ∧ ∃ (g' : Nat), g' ≤ x.fst ∧ x.fst - g' < x.fst - g ∧ True ∧ ((True ∧ sumN g x.snd + x.snd g = sumN g' x.snd) ∧ (True ∧ (↑g : Int) + (1 : Int) = (↑g' : Int)) ∧ True) ∧ True) ∧ (decide ((↑g : Int) < (↑x.fst : Int)) = false → True ∧ sumN g x.snd = sumN x.fst x.snd)) (by kernel_rfl) ?_
  obtain ⟨h0, h1⟩ := h
  simp only [true_and, and_true, inR, decide_eq_true_eq, decide_eq_false_iff_not] at *
  refine ⟨⟨0, by omega, by simp [sumN], rfl⟩, fun i hi => ⟨fun hlt => ?_, fun hlt => ?_⟩⟩
  · have := h1 (i + 1) (by omega)
    exact ⟨by omega, hlt, this, by omega, i + 1, by omega, by omega, rfl, by omega⟩
  · obtain rfl : i = x.1 := (by omega)
    rfl

def aSame (n : Nat) (f g : Nat → Int) : Ann := { G := Nat, ok := fun _ i => i ≤ n ∧ allB i (fun i => decide (f i = g i)) = true, dom := fun _ => [], tm := fun _ i => [(5, .t (intC i))], hp := fun _ _ => [], mu := fun _ i => n - i }
def sSame : Sig := ⟨(Nat × (Nat → Int)) × Nat × (Nat → Int), fun x => [.c (nums x.1.1 x.1.2), .c (nums x.2.1 x.2.2)], fun x => x.1.1 < 4611686018427387904, fun x => [.v (.c (.bool (decide (x.1.1 = x.2.1) && allB x.1.1 (fun i => decide (x.1.2 i = x.2.2 i)))))]⟩
theorem q16 (x : sSame.α) (h : sSame.pre x) : CallQ Tryd.prog E0 16 (sSame.arg x) (sSame.res x) := by
  obtain ⟨⟨n, f⟩, m, g⟩ := x
  refine bare_with E0_ok [] SigsOk.nil runs [(16, 4, aSame n f g)] [] (fuel := 5) ?_
  refine of_red (q := (((↑((n, f), m, g).fst.fst : Int) != (↑((n, f), m, g).snd.fst : Int)) = true → True ∧ (decide (((n, f), m, g).fst.fst = ((n, f), m, g).snd.fst) && allB ((n, f), m, g).fst.fst fun (i : Nat) => decide (((n, f), m, g).fst.snd i = ((n, f), m, g).snd.snd i)) = false) ∧ (((↑((n, f), m, g).fst.fst : Int) != (↑((n, f), m, g).snd.fst : Int)) = false → (∃ (g_1 : Nat), (g_1 ≤ n ∧ (allB g_1 fun (i : Nat) => decide (f i = g i)) = true) ∧ True ∧ ((True ∧ (0 : Int) = (↑g_1 : Int)) ∧ True) ∧ True) ∧ ∀ (g_1 : Nat), g_1 ≤ n ∧ (allB g_1 fun (i : Nat) => decide (f i = g i)) = true → (decide ((↑g_1 : Int) < (↑((n, f), m, g).fst.fst : Int)) = true → (0 : Int) ≤ (↑g_1 : Int) ∧ (↑g_1 : Int) < (↑((n, f), m, g).fst.fst : Int) ∧ (0 : Int) ≤ (↑g_1 : Int) ∧ (↑g_1 : Int) < (↑((n, f), m, g).snd.fst : Int) ∧ ((((n, f), m, g).fst.snd g_1 != ((n, f), m, g).snd.snd g_1) = true → True ∧ (decide (((n, f), m, g).fst.fst = ((n, f), m, g).snd.fst) && allB ((n, f), m, g).fst.fst fun (i : Nat) => decide (((n, f), m, g).fst.snd i = ((n, f), m, g).snd.snd i)) = false) ∧ ((((n, f), m, g).fst.snd g_1 != ((n, f), m, g).snd.snd g_1) = false → inRange IntKind.i64 ((↑g_1 : Int) + (1 : Int)) ∧ ∃ (g' : Nat), (g' ≤ n ∧ (allB g' fun (i : Nat) => decide (f i = g i)) = true) ∧ n - g' < n - g_1 ∧ True ∧ ((True ∧ (↑g_1 : Int) + (1 : Int) = (↑g' : Int)) ∧ True) ∧ True)) ∧ (decide ((↑g_1 : Int) < (↑((n, f), m, g).fst.fst : Int)) = false → True ∧ (decide (((n, f), m, g).fst.fst = ((n, f), m, g).snd.fst) && allB ((n, f), m, g).fst.fst fun (i : Nat) => decide (((n, f), m, g).fst.snd i = ((n, f), m, g).snd.snd i)) = true))) (by kernel_rfl) ?_
  have h0 : n < 4611686018427387904 := h
  simp only [true_and, and_true, inR, decide_eq_true_eq, decide_eq_false_iff_not, bne_iff_ne, bne_eq_false_iff_eq, Bool.and_eq_false_iff, Bool.and_eq_true]
  refine ⟨fun h => .inl (by omega), fun h => ⟨⟨0, ⟨by omega, rfl⟩, rfl⟩, fun i hi => ⟨fun hlt => ⟨by omega, hlt, by omega, by omega, fun hne => .inr ?_, fun he => ⟨by omega, i + 1, ⟨by omega, ?_⟩, by omega, rfl⟩⟩, fun hlt => ⟨by omega, ?_⟩⟩⟩⟩
  · exact allB_false (n := i + 1) (by simp [allB, hne]) (by omega)
  · simp [allB, hi.2, he]
  · obtain rfl : i = n := (by omega)
    exact hi.2
end Go.Proofs.YthofpbnbjkdpaaaDoor
