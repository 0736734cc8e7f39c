/- Texts for the law of the last part, part 12. -/
import Derived.Test.YtcfmdhlohahhcaaDoorKnownP11
set_option linter.unusedSimpArgs false
set_option linter.unusedVariables false
namespace Nm
open Go Go.Sx
def srch {α : Type} (f : Nat → Option α) : Nat → Option α
 | 0 => none
 | n + 1 => match srch f n with | some a => some a | none => f n
theorem srch_none {α : Type} {f : Nat → Option α} {n : Nat} : srch f n = none ↔ ∀ i, i < n → f i = none := by
 induction n with
 | zero => simp [srch]
 | succ n ih =>
   unfold srch
   cases h : srch f n with
   | some a =>
     simp only
     constructor
     · intro e; cases e
     · intro e; rw [ih.2 (fun i hi => e i (by omega))] at h; cases h
   | none =>
     simp only
     have h' := ih.1 h
     constructor
     · intro e i hi
       by_cases c : i = n
       · subst c; exact e
       · exact h' i (by omega)
     · intro e; exact e n (by omega)
theorem srch_some {α : Type} {f : Nat → Option α} {n i : Nat} {a : α} (hi : i < n) (ha : f i = some a) (h : ∀ j, j < i → f j = none) : srch f n = some a := by
 induction n with
 | zero => omega
 | succ n ih =>
   unfold srch
   by_cases c : i = n
   · subst c
     rw [srch_none.2 h]
     exact ha
   · rw [ih (by omega)]
def firstP (H n : Nat) (p : Nat → Nat → Nat → Bool) : Option (Nat × Nat × Nat) :=
 srch (fun h => srch (fun i => srch (fun k => if decide (i < k) && p h i k then some (h, i, k) else none) n) n) H
theorem at_none {p : Nat → Nat → Nat → Bool} {h i k : Nat} : (if decide (i < k) && p h i k then some (h, i, k) else none) = none ↔ (i < k → p h i k = false) := by
 by_cases c : i < k <;> cases hp : p h i k <;> simp [c]
theorem firstP_none {H n : Nat} {p : Nat → Nat → Nat → Bool} : firstP H n p = none ↔ ∀ h, h < H → ∀ i, i < n → ∀ k, k < n → i < k → p h i k = false := by
 unfold firstP
 rw [srch_none]
 simp only [srch_none, at_none]
theorem firstP_some {H n : Nat} {p : Nat → Nat → Nat → Bool} {h i k : Nat} (hh : h < H) (hi : i < n) (hk : k < n) (hik : i < k) (hp : p h i k = true)
   (a1 : ∀ h', h' < h → ∀ i, i < n → ∀ k, i < k → k < n → p h' i k = false) (a2 : ∀ i', i' < i → ∀ k, i' < k → k < n → p h i' k = false) (a3 : ∀ k', i < k' → k' < k → p h i k' = false) : firstP H n p = some (h, i, k) := by
 unfold firstP
 refine srch_some hh (srch_some hi (srch_some hk (by simp [hik, hp]) fun j hj => at_none.2 fun hij => a3 j hij hj) fun j hj => srch_none.2 fun k hk => at_none.2 fun hjk => a2 j hj k hjk hk) fun j hj => srch_none.2 fun i hi => srch_none.2 fun k hk => at_none.2 fun hik => a1 j hj i hi k hik hk
def oH : Option (Nat × Nat × Nat) → Int | some x => x.1 | none => 0
def oI : Option (Nat × Nat × Nat) → Int | some x => x.2.1 | none => 0
def oK : Option (Nat × Nat × Nat) → Int | some x => x.2.2 | none => 0
def oE : Option (Nat × Nat × Nat) → Int | some _ => 0 | none => 4
def foulTV (o : Option (Nat × Nat × Nat)) : TV := .a 3 (ofList [.int .i64 (oH o), .int .i64 (oI o), .int .i64 (oK o)])
end Nm
namespace Go.Proofs.YtcfmdhlohahhcaaDoor
open Go Go.Sx Nm
set_option maxRecDepth 100000
def canH (x : Fleet) (h i k : Nat) : Bool := lyB x i h && lyB x k h && canP ⟨x, i, k, h⟩
def aS1 (x : Fleet) (p : Nat → Nat → Nat → Bool) : Ann := { G := Nat, ok := fun _ g => g ≤ x.hE + 1 ∧ ∀ h, h < g → ∀ i, i < x.k → ∀ k, i < k → k < x.k → p h i k = false, dom := fun _ => [], tm := fun _ g => [(13, .t (intC g))], hp := fun _ _ => [], mu := fun _ g => x.hE + 1 - g }
def aS2 (x : Fleet) (p : Nat → Nat → Nat → Bool) : Ann := { G := Nat × Nat, ok := fun st g => isB (st.hp (osN (st.tm 2))) 0 g.2 ∧ g.1 ≤ x.k ∧ ∀ i, i < g.1 → ∀ k, i < k → k < x.k → p g.2 i k = false, dom := fun _ => [], tm := fun _ g => [(10, .t (intC g.1))], hp := fun _ _ => [], mu := fun _ g => x.k - g.1 }
def aS3 (x : Fleet) (p : Nat → Nat → Nat → Bool) : Ann := { G := Nat × Nat × Nat, ok := fun st g => isB (st.hp (osN (st.tm 2))) 0 g.2.2 ∧ isI (st.tm 4) g.2.1 ∧ g.2.1 < g.1 ∧ g.1 ≤ x.k ∧ ∀ k, g.2.1 < k → k < g.1 → p g.2.2 g.2.1 k = false, dom := fun _ => [], tm := fun _ g => [(5, .t (intC g.1))], hp := fun _ _ => [], mu := fun _ g => x.k - g.1 }
def canO (x : Fleet) : Option (Nat × Nat × Nat) := if Nm.chk x then firstP (x.hE + 1) x.k (canH x) else none
def canE (x : Fleet) : Int := if Nm.chk x then oE (canO x) else 20
def sCanF : Sig := ⟨Fleet, fun x => [fleetTV x], fun x => x.wf, fun x => [.v (foulTV (canO x)), .v (intC (canE x))]⟩
theorem q24 (x : Fleet) (h : x.wf) : CallQ Tryd.prog E0 24 (sCanF.arg x) (sCanF.res x) := by
 refine bare_say E0_ok [(65, sCanP), (67, sOpen), (127, sTdN), (123, sTdE), (126, sSl 8), (122, sSl 6), (125, sLg 1), (120, sLg 0), (124, sAt 1), (119, sAt 0), (121, sLong), (56, sLie), (55, sNet)] (show SigsOk Tryd.prog E0 [(65, sCanP), (67, sOpen), (127, sTdN), (123, sTdE), (126, sSl 8), (122, sSl 6), (125, sLg 1), (120, sLg 0), (124, sAt 1), (119, sAt 0), (121, sLong), (56, sLie), (55, sNet)] from (((((((((((((SigsOk.nil.cons u55 q55).cons u56 fun x _ => q56 x).cons u121 fun x _ => q121 x).cons u119 fun x _ => q119 x).cons u124 fun x _ => q124 x).cons u120 fun x _ => q120 x).cons u125 fun x _ => q125 x).cons u122 fun x _ => q122 x).cons u126 fun x _ => q126 x).cons u123 q123).cons u127 q127).cons u67 q67).cons u65 q65)) [] EvensOk.nil runs { l := [(64, 2, aS1 (opF x) (canH x)), (100, 1, aS2 (opF x) (canH x)), (100, 4, aS3 (opF x) (canH x))] } (fuel := 8) ?_
 refine of_red (q := ∃ (x_1 : Fleet), ((True∧flq x x_1)∧True)∧(x_1.hE < (4611686018427387904 : Nat)∧x_1.hN < (4611686018427387904 : Nat)∧x_1.k < (4611686018427387904 : Nat))∧((chkE x_1 != (0 : Int)) = true→(True∧((True∧True∧(0 : Int) = oH (canO x))∧True∧(0 : Int) = oI (canO x))∧True∧(0 : Int) = oK (canO x))∧(True∧chkE x_1 = canE x)∧True)∧((chkE x_1 != (0 : Int)) = false→inRange IntKind.i64 ((↑(opF x_1).hE : Int) + (1 : Int))∧(∃ (g : Nat), (g≤(opF x).hE + (1 : Nat)∧∀ (h : Nat), h < g→∀ (i : Nat), i < (opF x).k→∀ (k : Nat), i < k→k < (opF x).k→canH x h i k = false)∧True∧((True∧(0 : Int) = (↑g : Int))∧True)∧True)∧∀ (g : Nat), (g≤(opF x).hE + (1 : Nat)∧∀ (h : Nat), h < g→∀ (i : Nat), i < (opF x).k→∀ (k : Nat), i < k→k < (opF x).k→canH x h i k = false)→(decide ((↑g : Int) < (↑(opF x_1).hE : Int) + (1 : Int)) = true→(∃ (g_1 : Nat × Nat), ((↑g : Int) = (↑g_1.snd : Int)∧g_1.fst≤(opF x).k∧∀ (i : Nat), i < g_1.fst→∀ (k : Nat), i < k→k < (opF x).k→canH x g_1.snd i k = false)∧True∧((True∧(0 : Int) = (↑g_1.fst : Int))∧True)∧True)∧∀ (g_1 : Nat × Nat), ((↑g : Int) = (↑g_1.snd : Int)∧g_1.fst≤(opF x).k∧∀ (i : Nat), i < g_1.fst→∀ (k : Nat), i < k→k < (opF x).k→canH x g_1.snd i k = false)→(decide ((↑g_1.fst : Int) < (↑(opF x_1).k : Int)) = true→inRange IntKind.i64 ((↑g_1.fst : Int) + (1 : Int))∧(∃ (g_2 : Nat × Nat × Nat), ((↑g : Int) = (↑g_2.snd.snd : Int)∧(↑g_1.fst : Int) = (↑g_2.snd.fst : Int)∧g_2.snd.fst < g_2.fst∧g_2.fst≤(opF x).k∧∀ (k : Nat), g_2.snd.fst < k→k < g_2.fst→canH x g_2.snd.snd g_2.snd.fst k = false)∧True∧((True∧(↑g_1.fst : Int) + (1 : Int) = (↑g_2.fst : Int))∧True)∧True)∧∀ (g_2 : Nat × Nat × Nat), ((↑g : Int) = (↑g_2.snd.snd : Int)∧(↑g_1.fst : Int) = (↑g_2.snd.fst : Int)∧g_2.snd.fst < g_2.fst∧g_2.fst≤(opF x).k∧∀ (k : Nat), g_2.snd.fst < k→k < g_2.fst→canH x g_2.snd.snd g_2.snd.fst k = false)→(decide ((↑g_2.fst : Int) < (↑(opF x_1).k : Int)) = true→∃ (x_2 : Fleet × Int), ((True∧(((True∧True∧True∧(opF x_1).hE = x_2.fst.hE∧∀ (i : Nat), i < (opF x_1).hE→(True∧(opF x_1).e i 0 = x_2.fst.e i 0)∧(opF x_1).e i 1 = x_2.fst.e i 1)∧True∧True∧(opF x_1).hN = x_2.fst.hN∧∀ (i : Nat), i < (opF x_1).hN→(True∧(opF x_1).n i 0 = x_2.fst.n i 0)∧(opF x_1).n i 1 = x_2.fst.n i 1)∧True∧(opF x_1).gap = x_2.fst.gap)∧True∧True∧(opF x_1).k = x_2.fst.k∧∀ (i : Nat), i < (opF x_1).k→(((((((((True∧(opF x_1).net i 0 = x_2.fst.net i 0)∧(opF x_1).net i 1 = x_2.fst.net i 1)∧(opF x_1).net i 2 = x_2.fst.net i 2)∧(opF x_1).net i 3 = x_2.fst.net i 3)∧(opF x_1).net i 4 = x_2.fst.net i 4)∧(opF x_1).net i 5 = x_2.fst.net i 5)∧(opF x_1).net i 6 = x_2.fst.net i 6)∧(opF x_1).net i 7 = x_2.fst.net i 7)∧(opF x_1).net i 8 = x_2.fst.net i 8)∧(opF x_1).net i 9 = x_2.fst.net i 9)∧(True∧(↑g_1.fst : Int) = x_2.snd)∧True)∧((x_2.fst.hE < (4611686018427387904 : Nat)∧x_2.fst.hN < (4611686018427387904 : Nat)∧x_2.fst.k < (4611686018427387904 : Nat))∧(0 : Int)≤x_2.snd∧x_2.snd < (↑x_2.fst.k : Int))∧∃ (x_3 : (Nat→Int) × Int), ((True∧(((((((((True∧True∧x_2.fst.net x_2.snd.toNat 0 = x_3.fst 0)∧True∧x_2.fst.net x_2.snd.toNat 1 = x_3.fst 1)∧True∧x_2.fst.net x_2.snd.toNat 2 = x_3.fst 2)∧True∧x_2.fst.net x_2.snd.toNat 3 = x_3.fst 3)∧True∧x_2.fst.net x_2.snd.toNat 4 = x_3.fst 4)∧True∧x_2.fst.net x_2.snd.toNat 5 = x_3.fst 5)∧True∧x_2.fst.net x_2.snd.toNat 6 = x_3.fst 6)∧True∧x_2.fst.net x_2.snd.toNat 7 = x_3.fst 7)∧True∧x_2.fst.net x_2.snd.toNat 8 = x_3.fst 8)∧True∧x_2.fst.net x_2.snd.toNat 9 = x_3.fst 9)∧(True∧(↑g : Int) = x_3.snd)∧True)∧True∧(within x_3.snd (x_3.fst (4 : Nat)) (x_3.fst (5 : Nat)) = true→∃ (x_4 : Fleet × Int), ((True∧(((True∧True∧True∧(opF x_1).hE = x_4.fst.hE∧∀ (i : Nat), i < (opF x_1).hE→(True∧(opF x_1).e i 0 = x_4.fst.e i 0)∧(opF x_1).e i 1 = x_4.fst.e i 1)∧True∧True∧(opF x_1).hN = x_4.fst.hN∧∀ (i : Nat), i < (opF x_1).hN→(True∧(opF x_1).n i 0 = x_4.fst.n i 0)∧(opF x_1).n i 1 = x_4.fst.n i 1)∧True∧(opF x_1).gap = x_4.fst.gap)∧True∧True∧(opF x_1).k = x_4.fst.k∧∀ (i : Nat), i < (opF x_1).k→(((((((((True∧(opF x_1).net i 0 = x_4.fst.net i 0)∧(opF x_1).net i 1 = x_4.fst.net i 1)∧(opF x_1).net i 2 = x_4.fst.net i 2)∧(opF x_1).net i 3 = x_4.fst.net i 3)∧(opF x_1).net i 4 = x_4.fst.net i 4)∧(opF x_1).net i 5 = x_4.fst.net i 5)∧(opF x_1).net i 6 = x_4.fst.net i 6)∧(opF x_1).net i 7 = x_4.fst.net i 7)∧(opF x_1).net i 8 = x_4.fst.net i 8)∧(opF x_1).net i 9 = x_4.fst.net i 9)∧(True∧(↑g_2.fst : Int) = x_4.snd)∧True)∧((x_4.fst.hE < (4611686018427387904 : Nat)∧x_4.fst.hN < (4611686018427387904 : Nat)∧x_4.fst.k < (4611686018427387904 : Nat))∧(0 : Int)≤x_4.snd∧x_4.snd < (↑x_4.fst.k : Int))∧∃ (x_5 : (Nat→Int) × Int), ((True∧(((((((((True∧True∧x_4.fst.net x_4.snd.toNat 0 = x_5.fst 0)∧True∧x_4.fst.net x_4.snd.toNat 1 = x_5.fst 1)∧True∧x_4.fst.net x_4.snd.toNat 2 = x_5.fst 2)∧True∧x_4.fst.net x_4.snd.toNat 3 = x_5.fst 3)∧True∧x_4.fst.net x_4.snd.toNat 4 = x_5.fst 4)∧True∧x_4.fst.net x_4.snd.toNat 5 = x_5.fst 5)∧True∧x_4.fst.net x_4.snd.toNat 6 = x_5.fst 6)∧True∧x_4.fst.net x_4.snd.toNat 7 = x_5.fst 7)∧True∧x_4.fst.net x_4.snd.toNat 8 = x_5.fst 8)∧True∧x_4.fst.net x_4.snd.toNat 9 = x_5.fst 9)∧(True∧(↑g : Int) = x_5.snd)∧True)∧True∧(within x_5.snd (x_5.fst (4 : Nat)) (x_5.fst (5 : Nat)) = true→∃ (x_6 : Ask), ((True∧(((True∧True∧True∧(opF x_1).hE = x_6.x.hE∧∀ (i : Nat), i < (opF x_1).hE→(True∧(opF x_1).e i 0 = x_6.x.e i 0)∧(opF x_1).e i 1 = x_6.x.e i 1)∧True∧True∧(opF x_1).hN = x_6.x.hN∧∀ (i : Nat), i < (opF x_1).hN→(True∧(opF x_1).n i 0 = x_6.x.n i 0)∧(opF x_1).n i 1 = x_6.x.n i 1)∧True∧(opF x_1).gap = x_6.x.gap)∧True∧True∧(opF x_1).k = x_6.x.k∧∀ (i : Nat), i < (opF x_1).k→(((((((((True∧(opF x_1).net i 0 = x_6.x.net i 0)∧(opF x_1).net i 1 = x_6.x.net i 1)∧(opF x_1).net i 2 = x_6.x.net i 2)∧(opF x_1).net i 3 = x_6.x.net i 3)∧(opF x_1).net i 4 = x_6.x.net i 4)∧(opF x_1).net i 5 = x_6.x.net i 5)∧(opF x_1).net i 6 = x_6.x.net i 6)∧(opF x_1).net i 7 = x_6.x.net i 7)∧(opF x_1).net i 8 = x_6.x.net i 8)∧(opF x_1).net i 9 = x_6.x.net i 9)∧(True∧(True∧True∧(↑g_1.fst : Int) = (↑x_6.i : Int))∧True∧(↑g_2.fst : Int) = (↑x_6.k : Int))∧(True∧(↑g : Int) = x_6.h)∧True)∧(ChkW x_6.x∧(x_6.x.hE < (4611686018427387904 : Nat)∧x_6.x.hN < (4611686018427387904 : Nat)∧x_6.x.k < (4611686018427387904 : Nat))∧x_6.i < x_6.x.k∧x_6.k < x_6.x.k∧(0 : Int)≤x_6.h∧x_6.h≤(24 : Int))∧(canP x_6 = true→(True∧((True∧True∧(↑g : Int) = oH (canO x))∧True∧(↑g_1.fst : Int) = oI (canO x))∧True∧(↑g_2.fst : Int) = oK (canO x))∧(True∧(0 : Int) = canE x)∧True)∧(canP x_6 = false→inRange IntKind.i64 ((↑g_2.fst : Int) + (1 : Int))∧∃ (g' : Nat × Nat × Nat), ((↑g : Int) = (↑g'.snd.snd : Int)∧(↑g_1.fst : Int) = (↑g'.snd.fst : Int)∧g'.snd.fst < g'.fst∧g'.fst≤(opF x).k∧∀ (k : Nat), g'.snd.fst < k→k < g'.fst→canH x g'.snd.snd g'.snd.fst k = false)∧(opF x).k - g'.fst < (opF x).k - g_2.fst∧True∧((True∧(↑g_2.fst : Int) + (1 : Int) = (↑g'.fst : Int))∧True)∧True))∧(within x_5.snd (x_5.fst (4 : Nat)) (x_5.fst (5 : Nat)) = false→inRange IntKind.i64 ((↑g_2.fst : Int) + (1 : Int))∧∃ (g' : Nat × Nat × Nat), ((↑g : Int) = (↑g'.snd.snd : Int)∧(↑g_1.fst : Int) = (↑g'.snd.fst : Int)∧g'.snd.fst < g'.fst∧g'.fst≤(opF x).k∧∀ (k : Nat), g'.snd.fst < k→k < g'.fst→canH x g'.snd.snd g'.snd.fst k = false)∧(opF x).k - g'.fst < (opF x).k - g_2.fst∧True∧((True∧(↑g_2.fst : Int) + (1 : Int) = (↑g'.fst : Int))∧True)∧True))∧(within x_3.snd (x_3.fst (4 : Nat)) (x_3.fst (5 : Nat)) = false→inRange IntKind.i64 ((↑g_2.fst : Int) + (1 : Int))∧∃ (g' : Nat × Nat × Nat), ((↑g : Int) = (↑g'.snd.snd : Int)∧(↑g_1.fst : Int) = (↑g'.snd.fst : Int)∧g'.snd.fst < g'.fst∧g'.fst≤(opF x).k∧∀ (k : Nat), g'.snd.fst < k→k < g'.fst→canH x g'.snd.snd g'.snd.fst k = false)∧(opF x).k - g'.fst < (opF x).k - g_2.fst∧True∧((True∧(↑g_2.fst : Int) + (1 : Int) = (↑g'.fst : Int))∧True)∧True))∧(decide ((↑g_2.fst : Int) < (↑(opF x_1).k : Int)) = false→inRange IntKind.i64 ((↑g_1.fst : Int) + (1 : Int))∧∃ (g' : Nat × Nat), ((↑g : Int) = (↑g'.snd : Int)∧g'.fst≤(opF x).k∧∀ (i : Nat), i < g'.fst→∀ (k : Nat), i < k→k < (opF x).k→canH x g'.snd i k = false)∧(opF x).k - g'.fst < (opF x).k - g_1.fst∧True∧((True∧(↑g_1.fst : Int) + (1 : Int) = (↑g'.fst : Int))∧True)∧True))∧(decide ((↑g_1.fst : Int) < (↑(opF x_1).k : Int)) = false→inRange IntKind.i64 ((↑g : Int) + (1 : Int))∧∃ (g' : Nat), (g'≤(opF x).hE + (1 : Nat)∧∀ (h : Nat), h < g'→∀ (i : Nat), i < (opF x).k→∀ (k : Nat), i < k→k < (opF x).k→canH x h i k = false)∧(opF x).hE + (1 : Nat) - g' < (opF x).hE + (1 : Nat) - g∧True∧((True∧(↑g : Int) + (1 : Int) = (↑g' : Int))∧True)∧True))∧(decide ((↑g : Int) < (↑(opF x_1).hE : Int) + (1 : Int)) = false→(True∧((True∧True∧(0 : Int) = oH (canO x))∧True∧(0 : Int) = oI (canO x))∧True∧(0 : Int) = oK (canO x))∧(True∧(4 : Int) = canE x)∧True))) (by kernel_rfl) ?_
 simp only [flq, true_and, and_true, inR, Prod.exists, Prod.forall, and_assoc, exists_and_left, exists_eq_left', exists_eq_left, forall_eq, exists_const, forall_const, loopN, loopM, fa2, fas, fas2, dup1, dup2, dup3, dup4, ite_true, exhs, exhn, exhz, exho, exA, ex1, ex2, ex3, ex4, ex5, beqI, bneI, decide_true, Bool.true_and, decide_eq_true_eq, decide_eq_false_iff_not, ne_eq, Decidable.not_not]
 simp only [Int.toNat_natCast]
 obtain ⟨w1, w2, w3⟩ := h
 refine exF ⟨w1, w2, w3, fun e => ?_, fun e => ?_⟩
 · obtain ⟨hc, e20⟩ := not_chk e
   have eO : canO x = none := if_neg hc
   have eE : canE x = 20 := if_neg hc
   rw [eO, eE, e20]
   exact ⟨rfl, rfl, rfl, rfl⟩
 · have hc := chk_of e
   rw [opF_eq hc]
   obtain ⟨s1, s2, s3, s4, s5, s6, s7⟩ := chk_size hc
   have eO : canO x = firstP (x.hE + 1) x.k (canH x) := if_pos hc
   have eE : canE x = oE (canO x) := if_pos hc
   refine ⟨by omega, by omega, by omega, fun _ h => by omega, fun g ⟨hg, hG⟩ => ⟨fun hlt => ⟨by omega, fun _ h => by omega, fun a b ⟨hb, ha, hA⟩ => ?_⟩, fun hge => ?_⟩⟩
   · obtain rfl : g = b := by omega
     refine ⟨fun halt => ⟨by omega, by omega, by omega, by omega, fun k h1 h2 => by omega, fun k a' b' ⟨hb', ha', hk1, hk2, hK⟩ => ?_⟩, fun hage => ⟨by omega, by omega, by omega, fun h hh i hi k hik hk => ?_, by omega⟩⟩
     · obtain rfl : g = b' := by omega
       obtain rfl : a = a' := by omega
       refine ⟨fun hk => ?_, fun hk => ⟨by omega, by omega, by omega, fun i hi k' h1 h2 => ?_, by omega⟩⟩
       · have next : canH x g a k = false → -9223372036854775808 ≤ (k : Int) + 1 ∧ (k : Int) + 1 ≤ 9223372036854775807 ∧ a < k + 1 ∧ k + 1 ≤ x.k ∧ (∀ k', a < k' → k' < k + 1 → canH x g a k' = false) ∧ x.k - (k + 1) < x.k - k := fun hf => ⟨by omega, by omega, by omega, by omega, fun k' h1 h2 => by
           by_cases c : k' = k
           · rw [c]; exact hf
           · exact hK k' h1 (by omega), by omega⟩
         have ly : ∀ j : Nat, j < x.k → lyB x j g = within g (x.net j 4) (x.net j 5) := fun j hj => by
           unfold lyB
           rw [Int.toNat_natCast, show within (j : Int) 0 ((x.k : Int) - 1) = true from Nm.within_iff.2 (by omega)]; rfl
         have eH : canH x g a k = (within g (x.net a 4) (x.net a 5) && within g (x.net k 4) (x.net k 5) && canP ⟨x, a, k, g⟩) := by
           unfold canH; rw [ly a (by omega), ly k (by omega)]
         refine exF ⟨w1, w2, w3, by omega, by omega, exNet ⟨fun l1 => exF ⟨w1, w2, w3, by omega, by omega, exNet ⟨fun l2 => ⟨⟨x, a, k, g⟩, rfl, fun _ _ => ⟨rfl, rfl⟩, rfl, fun _ _ => ⟨rfl, rfl⟩, rfl, rfl, fun _ _ => ⟨rfl, rfl, rfl, rfl, rfl, rfl, rfl, rfl, rfl, rfl⟩, rfl, rfl, rfl, chkW_of hc, w1, w2, w3, by show a < x.k; omega, by show k < x.k; omega, by show (0 : Int) ≤ (g : Int); omega, by show (g : Int) ≤ 24; omega, fun hp => ?_, fun hp => next ?_⟩, fun l2 => next ?_⟩⟩, fun l1 => next ?_⟩⟩
         · have hf : canO x = some (g, a, k) := by
             rw [eO]
             exact firstP_some (by omega) (by omega) (by omega) (by omega) (by rw [eH, l1, l2, hp]; rfl) hG hA hK
           rw [eE, hf]
           exact ⟨rfl, rfl, rfl, rfl⟩
         · rw [eH, hp]; simp
         · rw [eH, l2]; simp
         · rw [eH, l1]; simp
       · by_cases c : i = a
         · subst c; exact hK k' h1 (by omega)
         · exact hA i (by omega) k' h1 h2
     · by_cases c : h = g
       · subst c; exact hA i (by omega) k hik hk
       · exact hG h (by omega) i hi k hik hk
   · have hn : canO x = none := by
       rw [eO]
       exact firstP_none.2 fun h hh i hi k hk hik => hG h (by omega) i hi k hik hk
     rw [eE, hn]
     exact ⟨rfl, rfl, rfl, rfl⟩
end Go.Proofs.YtcfmdhlohahhcaaDoor
namespace Go.Proofs.YtcfmdhlohahhcaaDoor
open Go Go.Sx Nm
set_option maxRecDepth 100000
end Go.Proofs.YtcfmdhlohahhcaaDoor
namespace Nm
open Go Go.Sx
structure Truth where
 nE : Nat
 e : Nat → Int
 nN : Nat
 n : Nat → Int
 nSE : Nat
 se : Nat → Int
 nSN : Nat
 sn : Nat → Int
def Truth.wf (t : Truth) : Prop := t.nE < 4611686018427387904 ∧ t.nN < 4611686018427387904 ∧ t.nSE < 4611686018427387904 ∧ t.nSN < 4611686018427387904
def intsCV (n : Nat) (f : Nat → Int) : CV := .vs 1 n (fun i _ => .int .i64 (f i))
def truthTV (t : Truth) : TV := .a 4 (ofList [intsCV t.nE t.e, intsCV t.nN t.n, intsCV t.nSE t.se, intsCV t.nSN t.sn])
def tellI (i : Nat) (v lo hi : Nat → Int) : Bool := allB i (fun j => within (v j) (lo j) (hi j))
def tn (t : Truth) : Nat → Nat | 0 => t.nE | 1 => t.nN | 2 => t.nSE | _ => t.nSN
def tv (t : Truth) : Nat → Nat → Int | 0 => t.e | 1 => t.n | 2 => t.se | _ => t.sn
def tl (x : Fleet) : Nat → Nat → Int | 0 => fun j => x.e j 0 | 1 => fun j => x.n j 0 | 2 => fun j => x.net j 6 | _ => fun j => x.net j 8
def th (x : Fleet) : Nat → Nat → Int | 0 => fun j => x.e j 1 | 1 => fun j => x.n j 1 | 2 => fun j => x.net j 7 | _ => fun j => x.net j 9
def tm (x : Fleet) : Nat → Nat | 0 => x.hE | 1 => x.hE | 2 => x.k | _ => x.k
def tellB (x : Fleet) (t : Truth) (c i : Nat) : Bool := decide ((tn t c : Int) = (tm x c : Int)) && tellI i (tv t c) (tl x c) (th x c)
def tells (x : Fleet) (t : Truth) (c : Nat) : Bool := tellB x t c (tm x c)
def trOk (x : Fleet) (t : Truth) : Bool := tells x t 0 && tells x t 2 && (tells x t 1 && tells x t 3)
def ntT (x : Fleet) (t : Truth) (g : Nat) (i j : Nat) : Int := if 1 ≤ g ∧ (j = 6 ∨ j = 7) then t.se i else if 2 ≤ g ∧ (j = 8 ∨ j = 9) then t.sn i else x.net i j
def ntS (x : Fleet) (t : Truth) (off : Nat) (m i j : Nat) : Int := if i < m ∧ (j = 6 + 2 * off ∨ j = 7 + 2 * off) then tv t (2 + off) i else ntT x t off i j
def trF (x : Fleet) (t : Truth) : Fleet := ⟨x.hE, fun i _ => t.e i, x.hE, fun i _ => t.n i, x.gap, x.k, ntT x t 2⟩
def trR (x : Fleet) (t : Truth) : Fleet := if Nm.chk x then (if trOk x t then trF x t else x) else ⟨0, x.e, 0, x.n, 0, 0, x.net⟩
def trE (x : Fleet) (t : Truth) : Int := if Nm.chk x then (if trOk x t then 0 else 21) else 20
def lE (x : Fleet) (g : Nat) : Nat := if g = 0 then 0 else x.hE
def lN (x : Fleet) (g : Nat) : Nat := if g ≤ 1 then 0 else x.hE
theorem tell_step {x : Fleet} {t : Truth} {c a : Nat} (h : tellB x t c a = true) : within (tv t c a) (tl x c a) (th x c a) = tellB x t c (a + 1) := by
 unfold tellB tellI at h ⊢
 rw [Bool.and_eq_true] at h
 rw [h.1, allB, h.2]; rfl
theorem tell_n {x : Fleet} {t : Truth} {c a : Nat} (h : tellB x t c a = true) : tn t c = tm x c := by
 unfold tellB at h
 rw [Bool.and_eq_true, decide_eq_true_eq] at h
 omega
theorem tell_0 {x : Fleet} {t : Truth} {c : Nat} : decide ((tn t c : Int) = (tm x c : Int)) = tellB x t c 0 := by
 unfold tellB tellI allB
 rw [Bool.and_true]
theorem tell_false {x : Fleet} {t : Truth} {c a : Nat} (h : tellB x t c a = false) (ha : a ≤ tm x c) : tellB x t c a = tells x t c := by
 rw [h]
 symm
 cases hs : tells x t c with
 | false => rfl
 | true =>
   have h' : tellB x t c (tm x c) = true := hs
   unfold tellB tellI at h h'
   rw [Bool.and_eq_true] at h'
   rw [h'.1, allB_iff.2 (fun i hi => allB_iff.1 h'.2 i (by omega))] at h
   cases h
theorem tell_end {x : Fleet} {t : Truth} {c a : Nat} (ha : a = tm x c) : tellB x t c a = tells x t c := by rw [ha]; rfl
theorem trOk_of {x : Fleet} {t : Truth} (h0 : tells x t 0 = true) (h2 : tells x t 2 = true) (h1 : tells x t 1 = true) (h3 : tells x t 3 = true) : trOk x t = true := by unfold trOk; rw [h0, h1, h2, h3]; rfl
theorem trOk_no {x : Fleet} {t : Truth} {c : Nat} (hc : c < 4) (h : (!tells x t c) = true) : trOk x t = false := by
 rw [Bool.not_eq_true'] at h
 unfold trOk
 match c, hc with
 | 0, _ => rw [h]; simp
 | 1, _ => rw [h]; simp
 | 2, _ => rw [h]; simp
 | 3, _ => rw [h]; simp
theorem tells_n {x : Fleet} {t : Truth} {c : Nat} (h : tells x t c = true) : tn t c = tm x c := tell_n h
theorem ntS_0 {x : Fleet} {t : Truth} {off i j : Nat} : ntS x t off 0 i j = ntT x t off i j := by unfold ntS; rw [if_neg (by omega)]
theorem ntS_end {x : Fleet} {t : Truth} {off m i j : Nat} (ho : off ≤ 1) (hi : i < m) : ntS x t off m i j = ntT x t (off + 1) i j := by
 unfold ntS
 match off, ho with
 | 0, _ =>
   unfold ntT
   simp only [hi, true_and, tv]
   by_cases h : j = 6 ∨ j = 7 <;> simp [h]
 | 1, _ =>
   unfold ntT
   simp only [hi, true_and, tv]
   by_cases h : j = 8 ∨ j = 9
   · simp only [h, if_true]
     have : ¬ (j = 6 ∨ j = 7) := by omega
     simp [this]
   · simp [h]
theorem ntS_step {x : Fleet} {t : Truth} {off m i j : Nat} (hj : ¬ (j = 6 + 2 * off ∨ j = 7 + 2 * off)) : (if i = m then ntS x t off m m j else ntS x t off m i j) = ntS x t off (m + 1) i j := by
 unfold ntS
 simp only [hj, and_false, if_false]
 split
 · rename_i e; rw [e]
 · rfl
theorem ntS_set {x : Fleet} {t : Truth} {off m i j : Nat} (hj : j = 6 + 2 * off ∨ j = 7 + 2 * off) : (if i = m then tv t (2 + off) m else ntS x t off m i j) = ntS x t off (m + 1) i j := by
 unfold ntS
 simp only [hj, and_true]
 by_cases e : i = m
 · subst e; rw [if_pos rfl, if_pos (by omega)]
 · rw [if_neg e]
   by_cases h : i < m
   · rw [if_pos h, if_pos (by omega)]
   · rw [if_neg h, if_neg (by omega)]
end Nm
namespace Go.Sx
def isOff (st : St) (t : Nat) (off : Nat) : Prop := match st.tm t with
 | .t (.c (.ptr n _)) => (match st.hp n with
   | some (.box _ get) => (match get 6 with | .ptr _ o => o = off | _ => False)
   | _ => False)
 | _ => False
def offN (st : St) (t : Nat) : Nat := match st.tm t with
 | .t (.c (.ptr n _)) => (match st.hp n with
   | some (.box _ get) => (match get 6 with | .ptr _ o => o | _ => 0)
   | _ => 0)
 | _ => 0
def isTold (st : St) (c : Nat) : Prop := match st.tm 1 with
 | .t (.c (.fn f _ _ _ cap)) => (match cap 0 with
   | .ptr n _ => (match st.hp n with
     | some (.box _ get) => (match get 6 with | .ptr _ off => (f - 89) * 2 + off = c | _ => False)
     | _ => False)
   | _ => False)
 | _ => False
def celN (st : St) (n off : Nat) : Nat := match st.hp n with | some (.box _ get) => (match get off with | .os m _ _ => m | .ptr m _ => m | .mp m => m | _ => 0) | _ => 0
def boxG (st : St) (n : Nat) : Nat → CV := match st.hp n with | some (.box _ get) => get | _ => fun _ => .any
end Go.Sx
namespace Go.Proofs.YtcfmdhlohahhcaaDoor
open Go Go.Sx Nm
set_option maxRecDepth 100000
def sTruly : Sig := ⟨Fleet × Truth, fun a => [fleetTV a.1, truthTV a.2], fun a => a.1.wf ∧ a.2.wf, fun a => [.v (fleetTV (trR a.1 a.2)), .v (intC (trE a.1 a.2))]⟩
def pkS : PSpec := ⟨Int × Int, fun r => [spanTV r.1 r.2]⟩
def aV0 (x : Fleet) (t : Truth) : Ann := { G := Nat × Nat, ok := fun st g => isTold st g.2 ∧ g.1 ≤ tm x g.2, dom := fun _ => [], tm := fun _ g => [(7, .t (.c (.bool (tellB x t g.2 g.1)))), (8, .t (intC g.1))], hp := fun _ _ => [], mu := fun _ g => tm x g.2 - g.1 }
def cV0 (x : Fleet) (t : Truth) : Ann := { G := Nat, ok := fun st g => isTold st g, dom := fun _ => [], tm := fun _ g => [(7, .t (.c (.bool (tells x t g))))], hp := fun _ _ => [], mu := fun _ _ => 0 }
def aV1 (x : Fleet) (t : Truth) : Ann := { G := Nat, ok := fun _ g => g ≤ 2 ∧ (1 ≤ g → tells x t 0 = true ∧ tells x t 2 = true) ∧ (2 ≤ g → tells x t 1 = true ∧ tells x t 3 = true), dom := fun st => [osN (st.tm 8), st.nx, st.nx + 1, celN st (osN (st.tm 8)) 3], tm := fun _ g => [(43, .t (intC g))], hp := fun st g => [(osN (st.tm 8), .self, some (.box 4 (ofList [.os st.nx 2 (lE x g), .os (st.nx + 1) 2 (lN x g), .int .i64 x.gap, .os (celN st (osN (st.tm 8)) 3) 10 x.k]))), (st.nx, .box (osN (st.tm 8)) 0, some (.row 44 2 (lE x g) (fun i _ => .int .i64 (t.e i)))), (st.nx + 1, .box (osN (st.tm 8)) 1, some (.row 44 2 (lN x g) (fun i _ => .int .i64 (t.n i)))), (celN st (osN (st.tm 8)) 3, .self, some (.row 68 10 x.k (fun i j => .int .i64 (ntT x t g i j))))], mu := fun _ g => 2 - g }
def aV2 (x : Fleet) (t : Truth) : Ann := { G := Nat × Nat, ok := fun st g => isOff st 10 g.2 ∧ g.1 ≤ x.hE, dom := fun st => [osN (st.tm 8), celN st (osN (st.tm 8)) (offN st 10), st.nx], tm := fun _ g => [(76, .t (intC g.1))], hp := fun st g => [(osN (st.tm 8), .self, some (.box 4 (overAll 4 (boxG st (osN (st.tm 8))) (offN st 10) 1 (fun _ => .os st.nx 2 g.1)))), (celN st (osN (st.tm 8)) (offN st 10), .self, none), (st.nx, .box (osN (st.tm 8)) (offN st 10), some (.row 44 2 g.1 (fun i _ => .int .i64 (tv t g.2 i))))], mu := fun _ g => x.hE - g.1 }
def aV3 (x : Fleet) (t : Truth) : Ann := { G := Nat × Nat, ok := fun st g => isOff st 10 g.2 ∧ g.1 ≤ x.k, dom := fun st => [celN st (osN (st.tm 8)) 3], tm := fun _ g => [(95, .t (intC g.1))], hp := fun st g => [(celN st (osN (st.tm 8)) 3, .self, some (.row 68 10 x.k (fun i j => .int .i64 (ntS x t g.2 g.1 i j))))], mu := fun _ g => x.k - g.1 }
theorem q53 (a : sTruly.α) (ha : sTruly.pre a) : CallQ Tryd.prog E0 53 (sTruly.arg a) (sTruly.res a) := by
 obtain ⟨x, t⟩ := a
 refine bare_say E0_ok [(67, sOpen), (127, sTdN), (123, sTdE), (126, sSl 8), (122, sSl 6), (125, sLg 1), (120, sLg 0), (124, sAt 1), (119, sAt 0), (121, sLong), (55, sNet), (54, sIn)] (show SigsOk Tryd.prog E0 [(67, sOpen), (127, sTdN), (123, sTdE), (126, sSl 8), (122, sSl 6), (125, sLg 1), (120, sLg 0), (124, sAt 1), (119, sAt 0), (121, sLong), (55, sNet), (54, sIn)] from ((((((((((((SigsOk.nil.cons u54 fun x _ => q54 x).cons u55 q55).cons u121 fun x _ => q121 x).cons u119 fun x _ => q119 x).cons u124 fun x _ => q124 x).cons u120 fun x _ => q120 x).cons u125 fun x _ => q125 x).cons u122 fun x _ => q122 x).cons u126 fun x _ => q126 x).cons u123 q123).cons u127 q127).cons u67 q67)) [] EvensOk.nil runs { live := true, l := [(88, 3, aV0 x t), (53, 6, aV1 x t), (53, 12, aV2 x t), (53, 17, aV3 x t)], c := [(88, 6, cV0 x t)], q := [(53, 7, [(43, [0, 1])])], p := [(89, pkS), (90, pkS)], o := [(53, 14, fun st => [(osN (st.tm 8), [12]), (celN st (osN (st.tm 8)) (offN st 10), [10])])] } (fuel := 8) ?_
 refine of_red (q := ∃ (x_1 : Fleet), ((True∧flq x x_1)∧True)∧(x_1.hE < (4611686018427387904 : Nat)∧x_1.hN < (4611686018427387904 : Nat)∧x_1.k < (4611686018427387904 : Nat))∧((chkE x_1 != (0 : Int)) = true→(True∧(((True∧True∧True∧(opF x_1).hE = (trR x t).hE∧∀ (i : Nat), i < (opF x_1).hE→(True∧(opF x_1).e i 0 = (trR x t).e i 0)∧(opF x_1).e i 1 = (trR x t).e i 1)∧True∧True∧(opF x_1).hN = (trR x t).hN∧∀ (i : Nat), i < (opF x_1).hN→(True∧(opF x_1).n i 0 = (trR x t).n i 0)∧(opF x_1).n i 1 = (trR x t).n i 1)∧True∧(opF x_1).gap = (trR x t).gap)∧True∧True∧(opF x_1).k = (trR x t).k∧∀ (i : Nat), i < (opF x_1).k→(((((((((True∧(opF x_1).net i 0 = (trR x t).net i 0)∧(opF x_1).net i 1 = (trR x t).net i 1)∧(opF x_1).net i 2 = (trR x t).net i 2)∧(opF x_1).net i 3 = (trR x t).net i 3)∧(opF x_1).net i 4 = (trR x t).net i 4)∧(opF x_1).net i 5 = (trR x t).net i 5)∧(opF x_1).net i 6 = (trR x t).net i 6)∧(opF x_1).net i 7 = (trR x t).net i 7)∧(opF x_1).net i 8 = (trR x t).net i 8)∧(opF x_1).net i 9 = (trR x t).net i 9)∧(True∧chkE x_1 = trE x t)∧True)∧((chkE x_1 != (0 : Int)) = false→((0 : Nat) + (opF x_1).k) * (80 : Nat)≤(140737488355328 : Nat)∧(0 : Nat) + (opF x_1).k < (4611686018427387904 : Nat)∧(∃ (g : Nat), (g≤(2 : Nat)∧((1 : Nat)≤g→tells x t (0 : Nat) = true∧tells x t (2 : Nat) = true)∧((2 : Nat)≤g→tells x t (1 : Nat) = true∧tells x t (3 : Nat) = true))∧True∧((True∧(0 : Int) = (↑g : Int))∧True)∧(True∧(((True∧True∧lE x g = (0 : Nat))∧True∧lN x g = (0 : Nat))∧True∧(opF x_1).gap = x.gap)∧True∧True∧(0 : Nat) + (opF x_1).k = x.k)∧lE x g = (0 : Nat)∧lN x g = (0 : Nat)∧(True∧True∧(0 : Nat) + (opF x_1).k = x.k∧∀ (i : Nat), i < (0 : Nat) + (opF x_1).k→(((((((((True∧(opF x_1).net (i - (0 : Nat)) 0 = ntT x t g i 0)∧(opF x_1).net (i - (0 : Nat)) 1 = ntT x t g i 1)∧(opF x_1).net (i - (0 : Nat)) 2 = ntT x t g i 2)∧(opF x_1).net (i - (0 : Nat)) 3 = ntT x t g i 3)∧(opF x_1).net (i - (0 : Nat)) 4 = ntT x t g i 4)∧(opF x_1).net (i - (0 : Nat)) 5 = ntT x t g i 5)∧(opF x_1).net (i - (0 : Nat)) 6 = ntT x t g i 6)∧(opF x_1).net (i - (0 : Nat)) 7 = ntT x t g i 7)∧(opF x_1).net (i - (0 : Nat)) 8 = ntT x t g i 8)∧(opF x_1).net (i - (0 : Nat)) 9 = ntT x t g i 9)∧True)∧∀ (g : Nat), g≤(2 : Nat)∧((1 : Nat)≤g→tells x t (0 : Nat) = true∧tells x t (2 : Nat) = true)∧((2 : Nat)≤g→tells x t (1 : Nat) = true∧tells x t (3 : Nat) = true)→(decide ((↑g : Int) < (↑(2 : Nat) : Int)) = true→((↑g : Int) = (0 : Int)∨(↑g : Int) = (1 : Int)∨False)∧((↑g : Int) = (0 : Int)→(0 : Int)≤(0 : Int)∧(0 : Int) < (↑(2 : Nat) : Int)∧(0 : Nat) * (7 : Nat) + (0 : Nat) + (7 : Nat)≤(2 : Nat) * (7 : Nat)∧((∃ (g : Nat × Nat), (((89 : Nat) - (89 : FuncId)) * (2 : FuncId) + ((0 : Nat) + (0 : Nat)) = g.snd∧g.fst≤tm x g.snd)∧True∧((True∧((↑t.nE : Int) == (↑(opF x_1).hE : Int)) = tellB x t g.snd g.fst)∧(True∧(0 : Int) = (↑g.fst : Int))∧True)∧True)∧∀ (g : Nat × Nat), ((89 : Nat) - (89 : FuncId)) * (2 : FuncId) + ((0 : Nat) + (0 : Nat)) = g.snd∧g.fst≤tm x g.snd→(tellB x t g.snd g.fst = true→(decide ((↑g.fst : Int) < (↑(opF x_1).hE : Int)) = true→(0 : Int)≤(↑g.fst : Int)∧(↑g.fst : Int) < (↑t.nE : Int)∧(lookFn fnTab (89 : Nat)).isSome = true∧∃ (g_1 : Int × Int), (∃ (x : Fleet), ((True∧(((True∧True∧True∧(opF x_1).hE = x.hE∧∀ (i : Nat), i < (opF x_1).hE→(True∧(opF x_1).e i 0 = x.e i 0)∧(opF x_1).e i 1 = x.e i 1)∧True∧True∧(opF x_1).hN = x.hN∧∀ (i : Nat), i < (opF x_1).hN→(True∧(opF x_1).n i 0 = x.n i 0)∧(opF x_1).n i 1 = x.n i 1)∧True∧(opF x_1).gap = x.gap)∧True∧True∧(opF x_1).k = x.k∧∀ (i : Nat), i < (opF x_1).k→(((((((((True∧(opF x_1).net i 0 = x.net i 0)∧(opF x_1).net i 1 = x.net i 1)∧(opF x_1).net i 2 = x.net i 2)∧(opF x_1).net i 3 = x.net i 3)∧(opF x_1).net i 4 = x.net i 4)∧(opF x_1).net i 5 = x.net i 5)∧(opF x_1).net i 6 = x.net i 6)∧(opF x_1).net i 7 = x.net i 7)∧(opF x_1).net i 8 = x.net i 8)∧(opF x_1).net i 9 = x.net i 9)∧True)∧(x.hE < (4611686018427387904 : Nat)∧x.hN < (4611686018427387904 : Nat)∧x.k < (4611686018427387904 : Nat))∧(0 : Int)≤(↑g.fst : Int)∧(↑g.fst : Int) < (↑x.hE : Int)∧True∧True∧(True∧True∧x.e g.fst 0 = g_1.fst)∧True∧x.e g.fst 1 = g_1.snd)∧(lookFn fnTab (89 : Nat)).isSome = true∧∃ (g_2 : Int × Int), (∃ (x : Fleet), ((True∧(((True∧True∧True∧(opF x_1).hE = x.hE∧∀ (i : Nat), i < (opF x_1).hE→(True∧(opF x_1).e i 0 = x.e i 0)∧(opF x_1).e i 1 = x.e i 1)∧True∧True∧(opF x_1).hN = x.hN∧∀ (i : Nat), i < (opF x_1).hN→(True∧(opF x_1).n i 0 = x.n i 0)∧(opF x_1).n i 1 = x.n i 1)∧True∧(opF x_1).gap = x.gap)∧True∧True∧(opF x_1).k = x.k∧∀ (i : Nat), i < (opF x_1).k→(((((((((True∧(opF x_1).net i 0 = x.net i 0)∧(opF x_1).net i 1 = x.net i 1)∧(opF x_1).net i 2 = x.net i 2)∧(opF x_1).net i 3 = x.net i 3)∧(opF x_1).net i 4 = x.net i 4)∧(opF x_1).net i 5 = x.net i 5)∧(opF x_1).net i 6 = x.net i 6)∧(opF x_1).net i 7 = x.net i 7)∧(opF x_1).net i 8 = x.net i 8)∧(opF x_1).net i 9 = x.net i 9)∧True)∧(x.hE < (4611686018427387904 : Nat)∧x.hN < (4611686018427387904 : Nat)∧x.k < (4611686018427387904 : Nat))∧(0 : Int)≤(↑g.fst : Int)∧(↑g.fst : Int) < (↑x.hE : Int)∧True∧True∧(True∧True∧x.e g.fst 0 = g_2.fst)∧True∧x.e g.fst 1 = g_2.snd)∧∃ (x_2 : Int × Int × Int), ((True∧t.e g.fst = x_2.fst)∧(True∧g_1.fst = x_2.snd.fst)∧(True∧g_2.snd = x_2.snd.snd)∧True)∧True∧inRange IntKind.i64 ((↑g.fst : Int) + (1 : Int))∧∃ (g' : Nat × Nat), (((89 : Nat) - (89 : FuncId)) * (2 : FuncId) + ((0 : Nat) + (0 : Nat)) = g'.snd∧g'.fst≤tm x g'.snd)∧tm x g'.snd - g'.fst < tm x g.snd - g.fst∧True∧((True∧within x_2.fst x_2.snd.fst x_2.snd.snd = tellB x t g'.snd g'.fst)∧(True∧(↑g.fst : Int) + (1 : Int) = (↑g'.fst : Int))∧True)∧True)∧(decide ((↑g.fst : Int) < (↑(opF x_1).hE : Int)) = false→∃ (g_1 : Nat), ((89 : Nat) - (89 : FuncId)) * (2 : FuncId) + ((0 : Nat) + (0 : Nat)) = g_1∧True∧((True∧tellB x t g.snd g.fst = tells x t g_1)∧True)∧True))∧(tellB x t g.snd g.fst = false→∃ (g_1 : Nat), ((89 : Nat) - (89 : FuncId)) * (2 : FuncId) + ((0 : Nat) + (0 : Nat)) = g_1∧True∧((True∧tellB x t g.snd g.fst = tells x t g_1)∧True)∧True))∧∀ (g_1 : Nat), ((89 : Nat) - (89 : FuncId)) * (2 : FuncId) + ((0 : Nat) + (0 : Nat)) = g_1→((!tells x t g_1) = true→(True∧(((True∧True∧True∧(opF x_1).hE = (trR x t).hE∧∀ (i : Nat), i < (opF x_1).hE→(True∧(opF x_1).e i 0 = (trR x t).e i 0)∧(opF x_1).e i 1 = (trR x t).e i 1)∧True∧True∧(opF x_1).hN = (trR x t).hN∧∀ (i : Nat), i < (opF x_1).hN→(True∧(opF x_1).n i 0 = (trR x t).n i 0)∧(opF x_1).n i 1 = (trR x t).n i 1)∧True∧(opF x_1).gap = (trR x t).gap)∧True∧True∧(opF x_1).k = (trR x t).k∧∀ (i : Nat), i < (opF x_1).k→(((((((((True∧(opF x_1).net i 0 = (trR x t).net i 0)∧(opF x_1).net i 1 = (trR x t).net i 1)∧(opF x_1).net i 2 = (trR x t).net i 2)∧(opF x_1).net i 3 = (trR x t).net i 3)∧(opF x_1).net i 4 = (trR x t).net i 4)∧(opF x_1).net i 5 = (trR x t).net i 5)∧(opF x_1).net i 6 = (trR x t).net i 6)∧(opF x_1).net i 7 = (trR x t).net i 7)∧(opF x_1).net i 8 = (trR x t).net i 8)∧(opF x_1).net i 9 = (trR x t).net i 9)∧(True∧(21 : Int) = trE x t)∧True)∧((!tells x t g_1) = false→((∃ (g : Nat × Nat), (((90 : Nat) - (89 : FuncId)) * (2 : FuncId) + ((0 : Nat) + (0 : Nat)) = g.snd∧g.fst≤tm x g.snd)∧True∧((True∧((↑t.nSE : Int) == (↑(opF x_1).k : Int)) = tellB x t g.snd g.fst)∧(True∧(0 : Int) = (↑g.fst : Int))∧True)∧True)∧∀ (g : Nat × Nat), ((90 : Nat) - (89 : FuncId)) * (2 : FuncId) + ((0 : Nat) + (0 : Nat)) = g.snd∧g.fst≤tm x g.snd→(tellB x t g.snd g.fst = true→(decide ((↑g.fst : Int) < (↑(opF x_1).k : Int)) = true→(0 : Int)≤(↑g.fst : Int)∧(↑g.fst : Int) < (↑t.nSE : Int)∧(lookFn fnTab (90 : Nat)).isSome = true∧∃ (g_2 : Int × Int), (∃ (x : Fleet × Int), ((True∧(((True∧True∧True∧(opF x_1).hE = x.fst.hE∧∀ (i : Nat), i < (opF x_1).hE→(True∧(opF x_1).e i 0 = x.fst.e i 0)∧(opF x_1).e i 1 = x.fst.e i 1)∧True∧True∧(opF x_1).hN = x.fst.hN∧∀ (i : Nat), i < (opF x_1).hN→(True∧(opF x_1).n i 0 = x.fst.n i 0)∧(opF x_1).n i 1 = x.fst.n i 1)∧True∧(opF x_1).gap = x.fst.gap)∧True∧True∧(opF x_1).k = x.fst.k∧∀ (i : Nat), i < (opF x_1).k→(((((((((True∧(opF x_1).net i 0 = x.fst.net i 0)∧(opF x_1).net i 1 = x.fst.net i 1)∧(opF x_1).net i 2 = x.fst.net i 2)∧(opF x_1).net i 3 = x.fst.net i 3)∧(opF x_1).net i 4 = x.fst.net i 4)∧(opF x_1).net i 5 = x.fst.net i 5)∧(opF x_1).net i 6 = x.fst.net i 6)∧(opF x_1).net i 7 = x.fst.net i 7)∧(opF x_1).net i 8 = x.fst.net i 8)∧(opF x_1).net i 9 = x.fst.net i 9)∧(True∧(↑g.fst : Int) = x.snd)∧True)∧((x.fst.hE < (4611686018427387904 : Nat)∧x.fst.hN < (4611686018427387904 : Nat)∧x.fst.k < (4611686018427387904 : Nat))∧(0 : Int)≤x.snd∧x.snd < (↑x.fst.k : Int))∧∃ (x_2 : Nat→Int), ((True∧(((((((((True∧True∧x.fst.net x.snd.toNat 0 = x_2 0)∧True∧x.fst.net x.snd.toNat 1 = x_2 1)∧True∧x.fst.net x.snd.toNat 2 = x_2 2)∧True∧x.fst.net x.snd.toNat 3 = x_2 3)∧True∧x.fst.net x.snd.toNat 4 = x_2 4)∧True∧x.fst.net x.snd.toNat 5 = x_2 5)∧True∧x.fst.net x.snd.toNat 6 = x_2 6)∧True∧x.fst.net x.snd.toNat 7 = x_2 7)∧True∧x.fst.net x.snd.toNat 8 = x_2 8)∧True∧x.fst.net x.snd.toNat 9 = x_2 9)∧True)∧True∧True∧True∧(True∧True∧x_2 (6 : Nat) = g_2.fst)∧True∧x_2 ((6 : Nat) + (1 : Nat)) = g_2.snd)∧(lookFn fnTab (90 : Nat)).isSome = true∧∃ (g_3 : Int × Int), (∃ (x : Fleet × Int), ((True∧(((True∧True∧True∧(opF x_1).hE = x.fst.hE∧∀ (i : Nat), i < (opF x_1).hE→(True∧(opF x_1).e i 0 = x.fst.e i 0)∧(opF x_1).e i 1 = x.fst.e i 1)∧True∧True∧(opF x_1).hN = x.fst.hN∧∀ (i : Nat), i < (opF x_1).hN→(True∧(opF x_1).n i 0 = x.fst.n i 0)∧(opF x_1).n i 1 = x.fst.n i 1)∧True∧(opF x_1).gap = x.fst.gap)∧True∧True∧(opF x_1).k = x.fst.k∧∀ (i : Nat), i < (opF x_1).k→(((((((((True∧(opF x_1).net i 0 = x.fst.net i 0)∧(opF x_1).net i 1 = x.fst.net i 1)∧(opF x_1).net i 2 = x.fst.net i 2)∧(opF x_1).net i 3 = x.fst.net i 3)∧(opF x_1).net i 4 = x.fst.net i 4)∧(opF x_1).net i 5 = x.fst.net i 5)∧(opF x_1).net i 6 = x.fst.net i 6)∧(opF x_1).net i 7 = x.fst.net i 7)∧(opF x_1).net i 8 = x.fst.net i 8)∧(opF x_1).net i 9 = x.fst.net i 9)∧(True∧(↑g.fst : Int) = x.snd)∧True)∧((x.fst.hE < (4611686018427387904 : Nat)∧x.fst.hN < (4611686018427387904 : Nat)∧x.fst.k < (4611686018427387904 : Nat))∧(0 : Int)≤x.snd∧x.snd < (↑x.fst.k : Int))∧∃ (x_2 : Nat→Int), ((True∧(((((((((True∧True∧x.fst.net x.snd.toNat 0 = x_2 0)∧True∧x.fst.net x.snd.toNat 1 = x_2 1)∧True∧x.fst.net x.snd.toNat 2 = x_2 2)∧True∧x.fst.net x.snd.toNat 3 = x_2 3)∧True∧x.fst.net x.snd.toNat 4 = x_2 4)∧True∧x.fst.net x.snd.toNat 5 = x_2 5)∧True∧x.fst.net x.snd.toNat 6 = x_2 6)∧True∧x.fst.net x.snd.toNat 7 = x_2 7)∧True∧x.fst.net x.snd.toNat 8 = x_2 8)∧True∧x.fst.net x.snd.toNat 9 = x_2 9)∧True)∧True∧True∧True∧(True∧True∧x_2 (6 : Nat) = g_3.fst)∧True∧x_2 ((6 : Nat) + (1 : Nat)) = g_3.snd)∧∃ (x_2 : Int × Int × Int), ((True∧t.se g.fst = x_2.fst)∧(True∧g_2.fst = x_2.snd.fst)∧(True∧g_3.snd = x_2.snd.snd)∧True)∧True∧inRange IntKind.i64 ((↑g.fst : Int) + (1 : Int))∧∃ (g' : Nat × Nat), (((90 : Nat) - (89 : FuncId)) * (2 : FuncId) + ((0 : Nat) + (0 : Nat)) = g'.snd∧g'.fst≤tm x g'.snd)∧tm x g'.snd - g'.fst < tm x g.snd - g.fst∧True∧((True∧within x_2.fst x_2.snd.fst x_2.snd.snd = tellB x t g'.snd g'.fst)∧(True∧(↑g.fst : Int) + (1 : Int) = (↑g'.fst : Int))∧True)∧True)∧(decide ((↑g.fst : Int) < (↑(opF x_1).k : Int)) = false→∃ (g_2 : Nat), ((90 : Nat) - (89 : FuncId)) * (2 : FuncId) + ((0 : Nat) + (0 : Nat)) = g_2∧True∧((True∧tellB x t g.snd g.fst = tells x t g_2)∧True)∧True))∧(tellB x t g.snd g.fst = false→∃ (g_2 : Nat), ((90 : Nat) - (89 : FuncId)) * (2 : FuncId) + ((0 : Nat) + (0 : Nat)) = g_2∧True∧((True∧tellB x t g.snd g.fst = tells x t g_2)∧True)∧True))∧∀ (g_2 : Nat), ((90 : Nat) - (89 : FuncId)) * (2 : FuncId) + ((0 : Nat) + (0 : Nat)) = g_2→((!tells x t g_2) = true→(True∧(((True∧True∧True∧(opF x_1).hE = (trR x t).hE∧∀ (i : Nat), i < (opF x_1).hE→(True∧(opF x_1).e i 0 = (trR x t).e i 0)∧(opF x_1).e i 1 = (trR x t).e i 1)∧True∧True∧(opF x_1).hN = (trR x t).hN∧∀ (i : Nat), i < (opF x_1).hN→(True∧(opF x_1).n i 0 = (trR x t).n i 0)∧(opF x_1).n i 1 = (trR x t).n i 1)∧True∧(opF x_1).gap = (trR x t).gap)∧True∧True∧(opF x_1).k = (trR x t).k∧∀ (i : Nat), i < (opF x_1).k→(((((((((True∧(opF x_1).net i 0 = (trR x t).net i 0)∧(opF x_1).net i 1 = (trR x t).net i 1)∧(opF x_1).net i 2 = (trR x t).net i 2)∧(opF x_1).net i 3 = (trR x t).net i 3)∧(opF x_1).net i 4 = (trR x t).net i 4)∧(opF x_1).net i 5 = (trR x t).net i 5)∧(opF x_1).net i 6 = (trR x t).net i 6)∧(opF x_1).net i 7 = (trR x t).net i 7)∧(opF x_1).net i 8 = (trR x t).net i 8)∧(opF x_1).net i 9 = (trR x t).net i 9)∧(True∧(21 : Int) = trE x t)∧True)∧((!tells x t g_2) = false→(∃ (g_3 : Nat × Nat), ((0 : Nat) + (0 : Nat) = g_3.snd∧g_3.fst≤x.hE)∧True∧((True∧(0 : Int) = (↑g_3.fst : Int))∧True)∧(True∧(((True∧True∧True∧lE x g = g_3.fst)∧True∧True∧lN x g = lN x g)∧True∧x.gap = x.gap)∧True∧True∧x.k = x.k)∧(True∧True∧lE x g = g_3.fst∧∀ (i : Nat), i < lE x g→(True∧t.e i = tv t g_3.snd i)∧t.e i = tv t g_3.snd i)∧True)∧∀ (g_3 : Nat × Nat), (0 : Nat) + (0 : Nat) = g_3.snd∧g_3.fst≤x.hE→(decide ((↑g_3.fst : Int) < (↑t.nE : Int)) = true→(0 : Int)≤(↑g_3.fst : Int)∧(↑g_3.fst : Int) < (↑t.nE : Int)∧(g_3.fst + (1 : Nat)) * (16 : Nat)≤(140737488355328 : Nat)∧g_3.fst + (1 : Nat) < (4611686018427387904 : Nat)∧inRange IntKind.i64 ((↑g_3.fst : Int) + (1 : Int))∧∃ (g' : Nat × Nat), ((0 : Nat) + (0 : Nat) = g'.snd∧g'.fst≤x.hE)∧x.hE - g'.fst < x.hE - g_3.fst∧True∧((True∧(↑g_3.fst : Int) + (1 : Int) = (↑g'.fst : Int))∧True)∧(True∧(((True∧True∧True∧g_3.fst + (1 : Nat) = g'.fst)∧True∧True∧lN x g = lN x g)∧True∧x.gap = x.gap)∧True∧True∧x.k = x.k)∧(True∧True∧g_3.fst + (1 : Nat) = g'.fst∧∀ (i : Nat), i < g_3.fst + (1 : Nat)→(True∧(if i < g_3.fst then tv t g_3.snd i else if i - g_3.fst = (0 : Nat) then t.e g_3.fst else (0 : Int)) = tv t g'.snd i)∧(if i < g_3.fst then tv t g_3.snd i else if i - g_3.fst = (0 : Nat) then t.e g_3.fst else (0 : Int)) = tv t g'.snd i)∧True)∧(decide ((↑g_3.fst : Int) < (↑t.nE : Int)) = false→(∃ (g_4 : Nat × Nat), ((0 : Nat) + (0 : Nat) = g_4.snd∧g_4.fst≤x.k)∧True∧((True∧(0 : Int) = (↑g_4.fst : Int))∧True)∧(True∧True∧x.k = x.k∧∀ (i : Nat), i < x.k→(((((((((True∧ntT x t g i 0 = ntS x t g_4.snd g_4.fst i 0)∧ntT x t g i 1 = ntS x t g_4.snd g_4.fst i 1)∧ntT x t g i 2 = ntS x t g_4.snd g_4.fst i 2)∧ntT x t g i 3 = ntS x t g_4.snd g_4.fst i 3)∧ntT x t g i 4 = ntS x t g_4.snd g_4.fst i 4)∧ntT x t g i 5 = ntS x t g_4.snd g_4.fst i 5)∧ntT x t g i 6 = ntS x t g_4.snd g_4.fst i 6)∧ntT x t g i 7 = ntS x t g_4.snd g_4.fst i 7)∧ntT x t g i 8 = ntS x t g_4.snd g_4.fst i 8)∧ntT x t g i 9 = ntS x t g_4.snd g_4.fst i 9)∧True)∧∀ (g_4 : Nat × Nat), (0 : Nat) + (0 : Nat) = g_4.snd∧g_4.fst≤x.k→(decide ((↑g_4.fst : Int) < (↑t.nSE : Int)) = true→(0 : Int)≤(↑g_4.fst : Int)∧(↑g_4.fst : Int) < (↑t.nSE : Int)∧(0 : Int)≤(↑g_4.fst : Int)∧(↑g_4.fst : Int) < (↑x.k : Int)∧inRange IntKind.i64 ((↑g_4.fst : Int) + (1 : Int))∧∃ (g' : Nat × Nat), ((0 : Nat) + (0 : Nat) = g'.snd∧g'.fst≤x.k)∧x.k - g'.fst < x.k - g_4.fst∧True∧((True∧(↑g_4.fst : Int) + (1 : Int) = (↑g'.fst : Int))∧True)∧(True∧True∧x.k = x.k∧∀ (i : Nat), i < x.k→(((((((((True∧(if i = g_4.fst then ntS x t g_4.snd g_4.fst g_4.fst 0 else ntS x t g_4.snd g_4.fst i 0) = ntS x t g'.snd g'.fst i 0)∧(if i = g_4.fst then ntS x t g_4.snd g_4.fst g_4.fst 1 else ntS x t g_4.snd g_4.fst i 1) = ntS x t g'.snd g'.fst i 1)∧(if i = g_4.fst then ntS x t g_4.snd g_4.fst g_4.fst 2 else ntS x t g_4.snd g_4.fst i 2) = ntS x t g'.snd g'.fst i 2)∧(if i = g_4.fst then ntS x t g_4.snd g_4.fst g_4.fst 3 else ntS x t g_4.snd g_4.fst i 3) = ntS x t g'.snd g'.fst i 3)∧(if i = g_4.fst then ntS x t g_4.snd g_4.fst g_4.fst 4 else ntS x t g_4.snd g_4.fst i 4) = ntS x t g'.snd g'.fst i 4)∧(if i = g_4.fst then ntS x t g_4.snd g_4.fst g_4.fst 5 else ntS x t g_4.snd g_4.fst i 5) = ntS x t g'.snd g'.fst i 5)∧(if i = g_4.fst then t.se g_4.fst else ntS x t g_4.snd g_4.fst i 6) = ntS x t g'.snd g'.fst i 6)∧(if i = g_4.fst then t.se g_4.fst else ntS x t g_4.snd g_4.fst i 7) = ntS x t g'.snd g'.fst i 7)∧(if i = g_4.fst then ntS x t g_4.snd g_4.fst g_4.fst 8 else ntS x t g_4.snd g_4.fst i 8) = ntS x t g'.snd g'.fst i 8)∧(if i = g_4.fst then ntS x t g_4.snd g_4.fst g_4.fst 9 else ntS x t g_4.snd g_4.fst i 9) = ntS x t g'.snd g'.fst i 9)∧True)∧(decide ((↑g_4.fst : Int) < (↑t.nSE : Int)) = false→inRange IntKind.i64 ((0 : Int) + (1 : Int))∧∃ (g' : Nat), (g'≤(2 : Nat)∧((1 : Nat)≤g'→tells x t (0 : Nat) = true∧tells x t (2 : Nat) = true)∧((2 : Nat)≤g'→tells x t (1 : Nat) = true∧tells x t (3 : Nat) = true))∧(2 : Nat) - g' < (2 : Nat) - g∧True∧((True∧(0 : Int) + (1 : Int) = (↑g' : Int))∧True)∧(True∧(((True∧True∧True∧g_3.fst = lE x g')∧True∧True∧lN x g = lN x g')∧True∧x.gap = x.gap)∧True∧True∧x.k = x.k)∧(True∧True∧g_3.fst = lE x g'∧∀ (i : Nat), i < g_3.fst→(True∧tv t g_3.snd i = t.e i)∧tv t g_3.snd i = t.e i)∧(True∧True∧lN x g = lN x g'∧∀ (i : Nat), i < lN x g→(True∧t.n i = t.n i)∧t.n i = t.n i)∧(True∧True∧x.k = x.k∧∀ (i : Nat), i < x.k→(((((((((True∧ntS x t g_4.snd g_4.fst i 0 = ntT x t g' i 0)∧ntS x t g_4.snd g_4.fst i 1 = ntT x t g' i 1)∧ntS x t g_4.snd g_4.fst i 2 = ntT x t g' i 2)∧ntS x t g_4.snd g_4.fst i 3 = ntT x t g' i 3)∧ntS x t g_4.snd g_4.fst i 4 = ntT x t g' i 4)∧ntS x t g_4.snd g_4.fst i 5 = ntT x t g' i 5)∧ntS x t g_4.snd g_4.fst i 6 = ntT x t g' i 6)∧ntS x t g_4.snd g_4.fst i 7 = ntT x t g' i 7)∧ntS x t g_4.snd g_4.fst i 8 = ntT x t g' i 8)∧ntS x t g_4.snd g_4.fst i 9 = ntT x t g' i 9)∧True)))))∧((↑g : Int) = (1 : Int)→(0 : Int)≤(1 : Int)∧(1 : Int) < (↑(2 : Nat) : Int)∧(1 : Nat) * (7 : Nat) + (0 : Nat) + (7 : Nat)≤(2 : Nat) * (7 : Nat)∧((∃ (g : Nat × Nat), (((89 : Nat) - (89 : FuncId)) * (2 : FuncId) + ((0 : Nat) + (1 : Nat)) = g.snd∧g.fst≤tm x g.snd)∧True∧((True∧((↑t.nN : Int) == (↑(opF x_1).hE : Int)) = tellB x t g.snd g.fst)∧(True∧(0 : Int) = (↑g.fst : Int))∧True)∧True)∧∀ (g : Nat × Nat), ((89 : Nat) - (89 : FuncId)) * (2 : FuncId) + ((0 : Nat) + (1 : Nat)) = g.snd∧g.fst≤tm x g.snd→(tellB x t g.snd g.fst = true→(decide ((↑g.fst : Int) < (↑(opF x_1).hE : Int)) = true→(0 : Int)≤(↑g.fst : Int)∧(↑g.fst : Int) < (↑t.nN : Int)∧(lookFn fnTab (89 : Nat)).isSome = true∧∃ (g_1 : Int × Int), (∃ (x : Fleet), ((True∧(((True∧True∧True∧(opF x_1).hE = x.hE∧∀ (i : Nat), i < (opF x_1).hE→(True∧(opF x_1).e i 0 = x.e i 0)∧(opF x_1).e i 1 = x.e i 1)∧True∧True∧(opF x_1).hN = x.hN∧∀ (i : Nat), i < (opF x_1).hN→(True∧(opF x_1).n i 0 = x.n i 0)∧(opF x_1).n i 1 = x.n i 1)∧True∧(opF x_1).gap = x.gap)∧True∧True∧(opF x_1).k = x.k∧∀ (i : Nat), i < (opF x_1).k→(((((((((True∧(opF x_1).net i 0 = x.net i 0)∧(opF x_1).net i 1 = x.net i 1)∧(opF x_1).net i 2 = x.net i 2)∧(opF x_1).net i 3 = x.net i 3)∧(opF x_1).net i 4 = x.net i 4)∧(opF x_1).net i 5 = x.net i 5)∧(opF x_1).net i 6 = x.net i 6)∧(opF x_1).net i 7 = x.net i 7)∧(opF x_1).net i 8 = x.net i 8)∧(opF x_1).net i 9 = x.net i 9)∧True)∧(x.hE < (4611686018427387904 : Nat)∧x.hN < (4611686018427387904 : Nat)∧x.k < (4611686018427387904 : Nat))∧(0 : Int)≤(↑g.fst : Int)∧(↑g.fst : Int) < (↑x.hN : Int)∧True∧True∧(True∧True∧x.n g.fst 0 = g_1.fst)∧True∧x.n g.fst 1 = g_1.snd)∧(lookFn fnTab (89 : Nat)).isSome = true∧∃ (g_2 : Int × Int), (∃ (x : Fleet), ((True∧(((True∧True∧True∧(opF x_1).hE = x.hE∧∀ (i : Nat), i < (opF x_1).hE→(True∧(opF x_1).e i 0 = x.e i 0)∧(opF x_1).e i 1 = x.e i 1)∧True∧True∧(opF x_1).hN = x.hN∧∀ (i : Nat), i < (opF x_1).hN→(True∧(opF x_1).n i 0 = x.n i 0)∧(opF x_1).n i 1 = x.n i 1)∧True∧(opF x_1).gap = x.gap)∧True∧True∧(opF x_1).k = x.k∧∀ (i : Nat), i < (opF x_1).k→(((((((((True∧(opF x_1).net i 0 = x.net i 0)∧(opF x_1).net i 1 = x.net i 1)∧(opF x_1).net i 2 = x.net i 2)∧(opF x_1).net i 3 = x.net i 3)∧(opF x_1).net i 4 = x.net i 4)∧(opF x_1).net i 5 = x.net i 5)∧(opF x_1).net i 6 = x.net i 6)∧(opF x_1).net i 7 = x.net i 7)∧(opF x_1).net i 8 = x.net i 8)∧(opF x_1).net i 9 = x.net i 9)∧True)∧(x.hE < (4611686018427387904 : Nat)∧x.hN < (4611686018427387904 : Nat)∧x.k < (4611686018427387904 : Nat))∧(0 : Int)≤(↑g.fst : Int)∧(↑g.fst : Int) < (↑x.hN : Int)∧True∧True∧(True∧True∧x.n g.fst 0 = g_2.fst)∧True∧x.n g.fst 1 = g_2.snd)∧∃ (x_2 : Int × Int × Int), ((True∧t.n g.fst = x_2.fst)∧(True∧g_1.fst = x_2.snd.fst)∧(True∧g_2.snd = x_2.snd.snd)∧True)∧True∧inRange IntKind.i64 ((↑g.fst : Int) + (1 : Int))∧∃ (g' : Nat × Nat), (((89 : Nat) - (89 : FuncId)) * (2 : FuncId) + ((0 : Nat) + (1 : Nat)) = g'.snd∧g'.fst≤tm x g'.snd)∧tm x g'.snd - g'.fst < tm x g.snd - g.fst∧True∧((True∧within x_2.fst x_2.snd.fst x_2.snd.snd = tellB x t g'.snd g'.fst)∧(True∧(↑g.fst : Int) + (1 : Int) = (↑g'.fst : Int))∧True)∧True)∧(decide ((↑g.fst : Int) < (↑(opF x_1).hE : Int)) = false→∃ (g_1 : Nat), ((89 : Nat) - (89 : FuncId)) * (2 : FuncId) + ((0 : Nat) + (1 : Nat)) = g_1∧True∧((True∧tellB x t g.snd g.fst = tells x t g_1)∧True)∧True))∧(tellB x t g.snd g.fst = false→∃ (g_1 : Nat), ((89 : Nat) - (89 : FuncId)) * (2 : FuncId) + ((0 : Nat) + (1 : Nat)) = g_1∧True∧((True∧tellB x t g.snd g.fst = tells x t g_1)∧True)∧True))∧∀ (g_1 : Nat), ((89 : Nat) - (89 : FuncId)) * (2 : FuncId) + ((0 : Nat) + (1 : Nat)) = g_1→((!tells x t g_1) = true→(True∧(((True∧True∧True∧(opF x_1).hE = (trR x t).hE∧∀ (i : Nat), i < (opF x_1).hE→(True∧(opF x_1).e i 0 = (trR x t).e i 0)∧(opF x_1).e i 1 = (trR x t).e i 1)∧True∧True∧(opF x_1).hN = (trR x t).hN∧∀ (i : Nat), i < (opF x_1).hN→(True∧(opF x_1).n i 0 = (trR x t).n i 0)∧(opF x_1).n i 1 = (trR x t).n i 1)∧True∧(opF x_1).gap = (trR x t).gap)∧True∧True∧(opF x_1).k = (trR x t).k∧∀ (i : Nat), i < (opF x_1).k→(((((((((True∧(opF x_1).net i 0 = (trR x t).net i 0)∧(opF x_1).net i 1 = (trR x t).net i 1)∧(opF x_1).net i 2 = (trR x t).net i 2)∧(opF x_1).net i 3 = (trR x t).net i 3)∧(opF x_1).net i 4 = (trR x t).net i 4)∧(opF x_1).net i 5 = (trR x t).net i 5)∧(opF x_1).net i 6 = (trR x t).net i 6)∧(opF x_1).net i 7 = (trR x t).net i 7)∧(opF x_1).net i 8 = (trR x t).net i 8)∧(opF x_1).net i 9 = (trR x t).net i 9)∧(True∧(21 : Int) = trE x t)∧True)∧((!tells x t g_1) = false→((∃ (g : Nat × Nat), (((90 : Nat) - (89 : FuncId)) * (2 : FuncId) + ((0 : Nat) + (1 : Nat)) = g.snd∧g.fst≤tm x g.snd)∧True∧((True∧((↑t.nSN : Int) == (↑(opF x_1).k : Int)) = tellB x t g.snd g.fst)∧(True∧(0 : Int) = (↑g.fst : Int))∧True)∧True)∧∀ (g : Nat × Nat), ((90 : Nat) - (89 : FuncId)) * (2 : FuncId) + ((0 : Nat) + (1 : Nat)) = g.snd∧g.fst≤tm x g.snd→(tellB x t g.snd g.fst = true→(decide ((↑g.fst : Int) < (↑(opF x_1).k : Int)) = true→(0 : Int)≤(↑g.fst : Int)∧(↑g.fst : Int) < (↑t.nSN : Int)∧(lookFn fnTab (90 : Nat)).isSome = true∧∃ (g_2 : Int × Int), (∃ (x : Fleet × Int), ((True∧(((True∧True∧True∧(opF x_1).hE = x.fst.hE∧∀ (i : Nat), i < (opF x_1).hE→(True∧(opF x_1).e i 0 = x.fst.e i 0)∧(opF x_1).e i 1 = x.fst.e i 1)∧True∧True∧(opF x_1).hN = x.fst.hN∧∀ (i : Nat), i < (opF x_1).hN→(True∧(opF x_1).n i 0 = x.fst.n i 0)∧(opF x_1).n i 1 = x.fst.n i 1)∧True∧(opF x_1).gap = x.fst.gap)∧True∧True∧(opF x_1).k = x.fst.k∧∀ (i : Nat), i < (opF x_1).k→(((((((((True∧(opF x_1).net i 0 = x.fst.net i 0)∧(opF x_1).net i 1 = x.fst.net i 1)∧(opF x_1).net i 2 = x.fst.net i 2)∧(opF x_1).net i 3 = x.fst.net i 3)∧(opF x_1).net i 4 = x.fst.net i 4)∧(opF x_1).net i 5 = x.fst.net i 5)∧(opF x_1).net i 6 = x.fst.net i 6)∧(opF x_1).net i 7 = x.fst.net i 7)∧(opF x_1).net i 8 = x.fst.net i 8)∧(opF x_1).net i 9 = x.fst.net i 9)∧(True∧(↑g.fst : Int) = x.snd)∧True)∧((x.fst.hE < (4611686018427387904 : Nat)∧x.fst.hN < (4611686018427387904 : Nat)∧x.fst.k < (4611686018427387904 : Nat))∧(0 : Int)≤x.snd∧x.snd < (↑x.fst.k : Int))∧∃ (x_2 : Nat→Int), ((True∧(((((((((True∧True∧x.fst.net x.snd.toNat 0 = x_2 0)∧True∧x.fst.net x.snd.toNat 1 = x_2 1)∧True∧x.fst.net x.snd.toNat 2 = x_2 2)∧True∧x.fst.net x.snd.toNat 3 = x_2 3)∧True∧x.fst.net x.snd.toNat 4 = x_2 4)∧True∧x.fst.net x.snd.toNat 5 = x_2 5)∧True∧x.fst.net x.snd.toNat 6 = x_2 6)∧True∧x.fst.net x.snd.toNat 7 = x_2 7)∧True∧x.fst.net x.snd.toNat 8 = x_2 8)∧True∧x.fst.net x.snd.toNat 9 = x_2 9)∧True)∧True∧True∧True∧(True∧True∧x_2 (8 : Nat) = g_2.fst)∧True∧x_2 ((8 : Nat) + (1 : Nat)) = g_2.snd)∧(lookFn fnTab (90 : Nat)).isSome = true∧∃ (g_3 : Int × Int), (∃ (x : Fleet × Int), ((True∧(((True∧True∧True∧(opF x_1).hE = x.fst.hE∧∀ (i : Nat), i < (opF x_1).hE→(True∧(opF x_1).e i 0 = x.fst.e i 0)∧(opF x_1).e i 1 = x.fst.e i 1)∧True∧True∧(opF x_1).hN = x.fst.hN∧∀ (i : Nat), i < (opF x_1).hN→(True∧(opF x_1).n i 0 = x.fst.n i 0)∧(opF x_1).n i 1 = x.fst.n i 1)∧True∧(opF x_1).gap = x.fst.gap)∧True∧True∧(opF x_1).k = x.fst.k∧∀ (i : Nat), i < (opF x_1).k→(((((((((True∧(opF x_1).net i 0 = x.fst.net i 0)∧(opF x_1).net i 1 = x.fst.net i 1)∧(opF x_1).net i 2 = x.fst.net i 2)∧(opF x_1).net i 3 = x.fst.net i 3)∧(opF x_1).net i 4 = x.fst.net i 4)∧(opF x_1).net i 5 = x.fst.net i 5)∧(opF x_1).net i 6 = x.fst.net i 6)∧(opF x_1).net i 7 = x.fst.net i 7)∧(opF x_1).net i 8 = x.fst.net i 8)∧(opF x_1).net i 9 = x.fst.net i 9)∧(True∧(↑g.fst : Int) = x.snd)∧True)∧((x.fst.hE < (4611686018427387904 : Nat)∧x.fst.hN < (4611686018427387904 : Nat)∧x.fst.k < (4611686018427387904 : Nat))∧(0 : Int)≤x.snd∧x.snd < (↑x.fst.k : Int))∧∃ (x_2 : Nat→Int), ((True∧(((((((((True∧True∧x.fst.net x.snd.toNat 0 = x_2 0)∧True∧x.fst.net x.snd.toNat 1 = x_2 1)∧True∧x.fst.net x.snd.toNat 2 = x_2 2)∧True∧x.fst.net x.snd.toNat 3 = x_2 3)∧True∧x.fst.net x.snd.toNat 4 = x_2 4)∧True∧x.fst.net x.snd.toNat 5 = x_2 5)∧True∧x.fst.net x.snd.toNat 6 = x_2 6)∧True∧x.fst.net x.snd.toNat 7 = x_2 7)∧True∧x.fst.net x.snd.toNat 8 = x_2 8)∧True∧x.fst.net x.snd.toNat 9 = x_2 9)∧True)∧True∧True∧True∧(True∧True∧x_2 (8 : Nat) = g_3.fst)∧True∧x_2 ((8 : Nat) + (1 : Nat)) = g_3.snd)∧∃ (x_2 : Int × Int × Int), ((True∧t.sn g.fst = x_2.fst)∧(True∧g_2.fst = x_2.snd.fst)∧(True∧g_3.snd = x_2.snd.snd)∧True)∧True∧inRange IntKind.i64 ((↑g.fst : Int) + (1 : Int))∧∃ (g' : Nat × Nat), (((90 : Nat) - (89 : FuncId)) * (2 : FuncId) + ((0 : Nat) + (1 : Nat)) = g'.snd∧g'.fst≤tm x g'.snd)∧tm x g'.snd - g'.fst < tm x g.snd - g.fst∧True∧((True∧within x_2.fst x_2.snd.fst x_2.snd.snd = tellB x t g'.snd g'.fst)∧(True∧(↑g.fst : Int) + (1 : Int) = (↑g'.fst : Int))∧True)∧True)∧(decide ((↑g.fst : Int) < (↑(opF x_1).k : Int)) = false→∃ (g_2 : Nat), ((90 : Nat) - (89 : FuncId)) * (2 : FuncId) + ((0 : Nat) + (1 : Nat)) = g_2∧True∧((True∧tellB x t g.snd g.fst = tells x t g_2)∧True)∧True))∧(tellB x t g.snd g.fst = false→∃ (g_2 : Nat), ((90 : Nat) - (89 : FuncId)) * (2 : FuncId) + ((0 : Nat) + (1 : Nat)) = g_2∧True∧((True∧tellB x t g.snd g.fst = tells x t g_2)∧True)∧True))∧∀ (g_2 : Nat), ((90 : Nat) - (89 : FuncId)) * (2 : FuncId) + ((0 : Nat) + (1 : Nat)) = g_2→((!tells x t g_2) = true→(True∧(((True∧True∧True∧(opF x_1).hE = (trR x t).hE∧∀ (i : Nat), i < (opF x_1).hE→(True∧(opF x_1).e i 0 = (trR x t).e i 0)∧(opF x_1).e i 1 = (trR x t).e i 1)∧True∧True∧(opF x_1).hN = (trR x t).hN∧∀ (i : Nat), i < (opF x_1).hN→(True∧(opF x_1).n i 0 = (trR x t).n i 0)∧(opF x_1).n i 1 = (trR x t).n i 1)∧True∧(opF x_1).gap = (trR x t).gap)∧True∧True∧(opF x_1).k = (trR x t).k∧∀ (i : Nat), i < (opF x_1).k→(((((((((True∧(opF x_1).net i 0 = (trR x t).net i 0)∧(opF x_1).net i 1 = (trR x t).net i 1)∧(opF x_1).net i 2 = (trR x t).net i 2)∧(opF x_1).net i 3 = (trR x t).net i 3)∧(opF x_1).net i 4 = (trR x t).net i 4)∧(opF x_1).net i 5 = (trR x t).net i 5)∧(opF x_1).net i 6 = (trR x t).net i 6)∧(opF x_1).net i 7 = (trR x t).net i 7)∧(opF x_1).net i 8 = (trR x t).net i 8)∧(opF x_1).net i 9 = (trR x t).net i 9)∧(True∧(21 : Int) = trE x t)∧True)∧((!tells x t g_2) = false→(∃ (g_3 : Nat × Nat), ((0 : Nat) + (1 : Nat) = g_3.snd∧g_3.fst≤x.hE)∧True∧((True∧(0 : Int) = (↑g_3.fst : Int))∧True)∧(True∧(((True∧True∧True∧lE x g = lE x g)∧True∧True∧lN x g = g_3.fst)∧True∧x.gap = x.gap)∧True∧True∧x.k = x.k)∧(True∧True∧lN x g = g_3.fst∧∀ (i : Nat), i < lN x g→(True∧t.n i = tv t g_3.snd i)∧t.n i = tv t g_3.snd i)∧True)∧∀ (g_3 : Nat × Nat), (0 : Nat) + (1 : Nat) = g_3.snd∧g_3.fst≤x.hE→(decide ((↑g_3.fst : Int) < (↑t.nN : Int)) = true→(0 : Int)≤(↑g_3.fst : Int)∧(↑g_3.fst : Int) < (↑t.nN : Int)∧(g_3.fst + (1 : Nat)) * (16 : Nat)≤(140737488355328 : Nat)∧g_3.fst + (1 : Nat) < (4611686018427387904 : Nat)∧inRange IntKind.i64 ((↑g_3.fst : Int) + (1 : Int))∧∃ (g' : Nat × Nat), ((0 : Nat) + (1 : Nat) = g'.snd∧g'.fst≤x.hE)∧x.hE - g'.fst < x.hE - g_3.fst∧True∧((True∧(↑g_3.fst : Int) + (1 : Int) = (↑g'.fst : Int))∧True)∧(True∧(((True∧True∧True∧lE x g = lE x g)∧True∧True∧g_3.fst + (1 : Nat) = g'.fst)∧True∧x.gap = x.gap)∧True∧True∧x.k = x.k)∧(True∧True∧g_3.fst + (1 : Nat) = g'.fst∧∀ (i : Nat), i < g_3.fst + (1 : Nat)→(True∧(if i < g_3.fst then tv t g_3.snd i else if i - g_3.fst = (0 : Nat) then t.n g_3.fst else (0 : Int)) = tv t g'.snd i)∧(if i < g_3.fst then tv t g_3.snd i else if i - g_3.fst = (0 : Nat) then t.n g_3.fst else (0 : Int)) = tv t g'.snd i)∧True)∧(decide ((↑g_3.fst : Int) < (↑t.nN : Int)) = false→(∃ (g_4 : Nat × Nat), ((0 : Nat) + (1 : Nat) = g_4.snd∧g_4.fst≤x.k)∧True∧((True∧(0 : Int) = (↑g_4.fst : Int))∧True)∧(True∧True∧x.k = x.k∧∀ (i : Nat), i < x.k→(((((((((True∧ntT x t g i 0 = ntS x t g_4.snd g_4.fst i 0)∧ntT x t g i 1 = ntS x t g_4.snd g_4.fst i 1)∧ntT x t g i 2 = ntS x t g_4.snd g_4.fst i 2)∧ntT x t g i 3 = ntS x t g_4.snd g_4.fst i 3)∧ntT x t g i 4 = ntS x t g_4.snd g_4.fst i 4)∧ntT x t g i 5 = ntS x t g_4.snd g_4.fst i 5)∧ntT x t g i 6 = ntS x t g_4.snd g_4.fst i 6)∧ntT x t g i 7 = ntS x t g_4.snd g_4.fst i 7)∧ntT x t g i 8 = ntS x t g_4.snd g_4.fst i 8)∧ntT x t g i 9 = ntS x t g_4.snd g_4.fst i 9)∧True)∧∀ (g_4 : Nat × Nat), (0 : Nat) + (1 : Nat) = g_4.snd∧g_4.fst≤x.k→(decide ((↑g_4.fst : Int) < (↑t.nSN : Int)) = true→(0 : Int)≤(↑g_4.fst : Int)∧(↑g_4.fst : Int) < (↑t.nSN : Int)∧(0 : Int)≤(↑g_4.fst : Int)∧(↑g_4.fst : Int) < (↑x.k : Int)∧inRange IntKind.i64 ((↑g_4.fst : Int) + (1 : Int))∧∃ (g' : Nat × Nat), ((0 : Nat) + (1 : Nat) = g'.snd∧g'.fst≤x.k)∧x.k - g'.fst < x.k - g_4.fst∧True∧((True∧(↑g_4.fst : Int) + (1 : Int) = (↑g'.fst : Int))∧True)∧(True∧True∧x.k = x.k∧∀ (i : Nat), i < x.k→(((((((((True∧(if i = g_4.fst then ntS x t g_4.snd g_4.fst g_4.fst 0 else ntS x t g_4.snd g_4.fst i 0) = ntS x t g'.snd g'.fst i 0)∧(if i = g_4.fst then ntS x t g_4.snd g_4.fst g_4.fst 1 else ntS x t g_4.snd g_4.fst i 1) = ntS x t g'.snd g'.fst i 1)∧(if i = g_4.fst then ntS x t g_4.snd g_4.fst g_4.fst 2 else ntS x t g_4.snd g_4.fst i 2) = ntS x t g'.snd g'.fst i 2)∧(if i = g_4.fst then ntS x t g_4.snd g_4.fst g_4.fst 3 else ntS x t g_4.snd g_4.fst i 3) = ntS x t g'.snd g'.fst i 3)∧(if i = g_4.fst then ntS x t g_4.snd g_4.fst g_4.fst 4 else ntS x t g_4.snd g_4.fst i 4) = ntS x t g'.snd g'.fst i 4)∧(if i = g_4.fst then ntS x t g_4.snd g_4.fst g_4.fst 5 else ntS x t g_4.snd g_4.fst i 5) = ntS x t g'.snd g'.fst i 5)∧(if i = g_4.fst then ntS x t g_4.snd g_4.fst g_4.fst 6 else ntS x t g_4.snd g_4.fst i 6) = ntS x t g'.snd g'.fst i 6)∧(if i = g_4.fst then ntS x t g_4.snd g_4.fst g_4.fst 7 else ntS x t g_4.snd g_4.fst i 7) = ntS x t g'.snd g'.fst i 7)∧(if i = g_4.fst then t.sn g_4.fst else ntS x t g_4.snd g_4.fst i 8) = ntS x t g'.snd g'.fst i 8)∧(if i = g_4.fst then t.sn g_4.fst else ntS x t g_4.snd g_4.fst i 9) = ntS x t g'.snd g'.fst i 9)∧True)∧(decide ((↑g_4.fst : Int) < (↑t.nSN : Int)) = false→inRange IntKind.i64 ((1 : Int) + (1 : Int))∧∃ (g' : Nat), (g'≤(2 : Nat)∧((1 : Nat)≤g'→tells x t (0 : Nat) = true∧tells x t (2 : Nat) = true)∧((2 : Nat)≤g'→tells x t (1 : Nat) = true∧tells x t (3 : Nat) = true))∧(2 : Nat) - g' < (2 : Nat) - g∧True∧((True∧(1 : Int) + (1 : Int) = (↑g' : Int))∧True)∧(True∧(((True∧True∧True∧lE x g = lE x g')∧True∧True∧g_3.fst = lN x g')∧True∧x.gap = x.gap)∧True∧True∧x.k = x.k)∧(True∧True∧lE x g = lE x g'∧∀ (i : Nat), i < lE x g→(True∧t.e i = t.e i)∧t.e i = t.e i)∧(True∧True∧g_3.fst = lN x g'∧∀ (i : Nat), i < g_3.fst→(True∧tv t g_3.snd i = t.n i)∧tv t g_3.snd i = t.n i)∧(True∧True∧x.k = x.k∧∀ (i : Nat), i < x.k→(((((((((True∧ntS x t g_4.snd g_4.fst i 0 = ntT x t g' i 0)∧ntS x t g_4.snd g_4.fst i 1 = ntT x t g' i 1)∧ntS x t g_4.snd g_4.fst i 2 = ntT x t g' i 2)∧ntS x t g_4.snd g_4.fst i 3 = ntT x t g' i 3)∧ntS x t g_4.snd g_4.fst i 4 = ntT x t g' i 4)∧ntS x t g_4.snd g_4.fst i 5 = ntT x t g' i 5)∧ntS x t g_4.snd g_4.fst i 6 = ntT x t g' i 6)∧ntS x t g_4.snd g_4.fst i 7 = ntT x t g' i 7)∧ntS x t g_4.snd g_4.fst i 8 = ntT x t g' i 8)∧ntS x t g_4.snd g_4.fst i 9 = ntT x t g' i 9)∧True)))))∧True)∧(decide ((↑g : Int) < (↑(2 : Nat) : Int)) = false→(True∧(((True∧True∧True∧lE x g = (trR x t).hE∧∀ (i : Nat), i < lE x g→(True∧t.e i = (trR x t).e i 0)∧t.e i = (trR x t).e i 1)∧True∧True∧lN x g = (trR x t).hN∧∀ (i : Nat), i < lN x g→(True∧t.n i = (trR x t).n i 0)∧t.n i = (trR x t).n i 1)∧True∧x.gap = (trR x t).gap)∧True∧True∧x.k = (trR x t).k∧∀ (i : Nat), i < x.k→(((((((((True∧ntT x t g i 0 = (trR x t).net i 0)∧ntT x t g i 1 = (trR x t).net i 1)∧ntT x t g i 2 = (trR x t).net i 2)∧ntT x t g i 3 = (trR x t).net i 3)∧ntT x t g i 4 = (trR x t).net i 4)∧ntT x t g i 5 = (trR x t).net i 5)∧ntT x t g i 6 = (trR x t).net i 6)∧ntT x t g i 7 = (trR x t).net i 7)∧ntT x t g i 8 = (trR x t).net i 8)∧ntT x t g i 9 = (trR x t).net i 9)∧(True∧(0 : Int) = trE x t)∧True))) (by kernel_rfl) ?_
 simp only [flq, true_and, and_true, inR, Prod.exists, Prod.forall, and_assoc, exists_and_left, exists_eq_left', exists_eq_left, forall_eq, exists_const, forall_const, loopN, loopM, fa2, fas, fas2, dup1, dup2, dup3, dup4, ite_true, exhs, exhn, exhz, exho, exA, ex1, ex2, ex3, ex4, ex5, beqI, bneI, decide_true, Bool.true_and, decide_eq_true_eq, decide_eq_false_iff_not, ne_eq, Decidable.not_not]
 simp only [Nat.reduceSub, Nat.reduceMul, Nat.reduceAdd, Nat.zero_mul, Nat.zero_add, Nat.sub_zero, Int.toNat_natCast]
 obtain ⟨⟨w1, w2, w3⟩, v1, v2, v3, v4⟩ := (show x.wf ∧ t.wf from ha)
 refine exF ⟨w1, w2, w3, fun e => ?_, fun e => ?_⟩
 · obtain ⟨hc, e20⟩ := not_chk e
   have eR : trR x t = opF x := by
     unfold trR opF
     rw [if_neg hc, if_neg hc, if_neg hc, if_neg hc, if_neg hc]
   have eE : trE x t = 20 := if_neg hc
   rw [eR, eE, e20]
   exact ⟨rfl, fun _ _ => ⟨rfl, rfl⟩, rfl, fun _ _ => ⟨rfl, rfl⟩, rfl, rfl, fun _ _ => ⟨rfl, rfl, rfl, rfl, rfl, rfl, rfl, rfl, rfl, rfl⟩, rfl⟩
 · have hc := chk_of e
   rw [opF_eq hc]
   obtain ⟨s1, s2, s3, s4, s5, s6, s7⟩ := chk_size hc
   have noR : trOk x t = false → trR x t = x ∧ trE x t = 21 := fun h => by
     unfold trR trE
     rw [if_pos hc, if_pos hc, h]
     exact ⟨rfl, rfl⟩
   refine ⟨by omega, by omega, ⟨0, by omega, fun h => absurd h (by omega), fun h => absurd h (by omega), rfl, rfl, rfl, rfl, rfl, rfl, rfl, rfl, fun i hi => ⟨rfl, rfl, rfl, rfl, rfl, rfl, rfl, rfl, rfl, rfl⟩⟩, fun g hg ⟨h1, h2⟩ => ⟨by omega, fun g0 => ?_, fun g1 => ?_⟩, fun ⟨h1, h2⟩ => ?_⟩
   · have eg : g = 0 := by omega
     refine ⟨by omega, by omega, by omega, Nat.zero_le _, tell_0 (c := 0), fun a b ⟨hb, ha⟩ => ?_, fun g1 hg => ⟨fun hn => ?_, fun hn => ?_⟩⟩
     · subst hb
       have em : tm x 0 = x.hE := rfl
       refine ⟨fun hT => ⟨fun hlt => ?_, fun hge => tell_end (by omega)⟩, fun hF => tell_false hF ha⟩
       have hg1n : x.hE = t.nE := (tell_n hT).symm
       exact ⟨by omega, by rw [← hg1n]; omega, by kernel_rfl, x.e a 0, x.e a 1, exF ⟨w1, w2, w3, by omega, by omega, rfl, rfl⟩, by kernel_rfl, x.e a 0, x.e a 1, exF ⟨w1, w2, w3, by omega, by omega, rfl, rfl⟩, by omega, by omega, by omega, by omega, tell_step hT⟩
     · subst hg
       have hno := trOk_no (c := 0) (by omega) hn
       rw [(noR hno).1, (noR hno).2]
       exact ⟨rfl, fun _ _ => ⟨rfl, rfl⟩, rfl, fun _ _ => ⟨rfl, rfl⟩, rfl, rfl, fun _ _ => ⟨rfl, rfl, rfl, rfl, rfl, rfl, rfl, rfl, rfl, rfl⟩, rfl⟩
     subst hg
     have k0 : tells x t 0 = true := by rw [Bool.not_eq_false'] at hn; exact hn
     have n0 : t.nE = x.hE := tells_n k0
     refine ⟨Nat.zero_le _, tell_0 (c := 2), fun a b ⟨hb, ha⟩ => ?_, fun g1 hg => ⟨fun hn => ?_, fun hn => ?_⟩⟩
     · subst hb
       have em : tm x 2 = x.k := rfl
       refine ⟨fun hT => ⟨fun hlt => ?_, fun hge => tell_end (by omega)⟩, fun hF => tell_false hF ha⟩
       have hg1n : x.k = t.nSE := (tell_n hT).symm
       exact ⟨by omega, by rw [← hg1n]; omega, by kernel_rfl, x.net a 6, x.net a 7, exF ⟨w1, w2, w3, by omega, by omega, exNet ⟨rfl, rfl⟩⟩, by kernel_rfl, x.net a 6, x.net a 7, exF ⟨w1, w2, w3, by omega, by omega, exNet ⟨rfl, rfl⟩⟩, by omega, by omega, by omega, by omega, tell_step hT⟩
     · subst hg
       have hno := trOk_no (c := 2) (by omega) hn
       rw [(noR hno).1, (noR hno).2]
       exact ⟨rfl, fun _ _ => ⟨rfl, rfl⟩, rfl, fun _ _ => ⟨rfl, rfl⟩, rfl, rfl, fun _ _ => ⟨rfl, rfl, rfl, rfl, rfl, rfl, rfl, rfl, rfl, rfl⟩, rfl⟩
     subst hg
     have k2 : tells x t 2 = true := by rw [Bool.not_eq_false'] at hn; exact hn
     have n2 : t.nSE = x.k := tells_n k2
     subst eg
     refine ⟨⟨0, by omega, rfl, rfl, rfl, fun i hi => absurd hi (Nat.not_lt_zero i)⟩, fun a b ⟨hb, ha⟩ => ⟨fun hlt => ⟨by omega, by omega, by omega, by omega, by omega, by omega, a + 1, by omega, by omega, by omega, rfl, rfl, fun i hi => ?_⟩, fun hge => ⟨⟨0, by omega, rfl, fun i hi => ⟨ntS_0.symm, ntS_0.symm, ntS_0.symm, ntS_0.symm, ntS_0.symm, ntS_0.symm, ntS_0.symm, ntS_0.symm, ntS_0.symm, ntS_0.symm⟩⟩, fun m b1 ⟨hb1, hm⟩ => ⟨fun hlt => ?_, fun hge2 => ?_⟩⟩⟩⟩
     · subst hb
       by_cases c : i < a
       · rw [if_pos c]; exact ⟨rfl, rfl⟩
       · obtain rfl : i = a := by omega
         rw [if_neg c, if_pos (by omega)]; exact ⟨rfl, rfl⟩
     · subst hb1
       exact ⟨by omega, by omega, by omega, by omega, by omega, by omega, m + 1, by omega, by omega, by omega, fun i hi => ⟨ntS_step (by omega), ntS_step (by omega), ntS_step (by omega), ntS_step (by omega), ntS_step (by omega), ntS_step (by omega), ntS_set (by omega), ntS_set (by omega), ntS_step (by omega), ntS_step (by omega)⟩⟩
     · subst hb1
       subst hb
       have ea : a = x.hE := by omega
       have em : m = x.k := by omega
       subst em
       exact ⟨by omega, by omega, 1, by omega, fun _ => ⟨k0, k2⟩, fun h => absurd h (by omega), by omega, rfl, ea, rfl, ea, fun i hi => ⟨rfl, rfl⟩, rfl, fun _ _ => trivial, fun i hi => ⟨ntS_end (by omega) (by omega), ntS_end (by omega) (by omega), ntS_end (by omega) (by omega), ntS_end (by omega) (by omega), ntS_end (by omega) (by omega), ntS_end (by omega) (by omega), ntS_end (by omega) (by omega), ntS_end (by omega) (by omega), ntS_end (by omega) (by omega), ntS_end (by omega) (by omega)⟩⟩
   · have eg : g = 1 := by omega
     refine ⟨by omega, by omega, by omega, Nat.zero_le _, tell_0 (c := 1), fun a b ⟨hb, ha⟩ => ?_, fun g1 hg => ⟨fun hn => ?_, fun hn => ?_⟩⟩
     · subst hb
       have em : tm x 1 = x.hE := rfl
       refine ⟨fun hT => ⟨fun hlt => ?_, fun hge => tell_end (by omega)⟩, fun hF => tell_false hF ha⟩
       have hg1n : x.hE = t.nN := (tell_n hT).symm
       exact ⟨by omega, by rw [← hg1n]; omega, by kernel_rfl, x.n a 0, x.n a 1, exF ⟨w1, w2, w3, by omega, by omega, rfl, rfl⟩, by kernel_rfl, x.n a 0, x.n a 1, exF ⟨w1, w2, w3, by omega, by omega, rfl, rfl⟩, by omega, by omega, by omega, by omega, tell_step hT⟩
     · subst hg
       have hno := trOk_no (c := 1) (by omega) hn
       rw [(noR hno).1, (noR hno).2]
       exact ⟨rfl, fun _ _ => ⟨rfl, rfl⟩, rfl, fun _ _ => ⟨rfl, rfl⟩, rfl, rfl, fun _ _ => ⟨rfl, rfl, rfl, rfl, rfl, rfl, rfl, rfl, rfl, rfl⟩, rfl⟩
     subst hg
     have k1 : tells x t 1 = true := by rw [Bool.not_eq_false'] at hn; exact hn
     have n1 : t.nN = x.hE := tells_n k1
     refine ⟨Nat.zero_le _, tell_0 (c := 3), fun a b ⟨hb, ha⟩ => ?_, fun g1 hg => ⟨fun hn => ?_, fun hn => ?_⟩⟩
     · subst hb
       have em : tm x 3 = x.k := rfl
       refine ⟨fun hT => ⟨fun hlt => ?_, fun hge => tell_end (by omega)⟩, fun hF => tell_false hF ha⟩
       have hg1n : x.k = t.nSN := (tell_n hT).symm
       exact ⟨by omega, by rw [← hg1n]; omega, by kernel_rfl, x.net a 8, x.net a 9, exF ⟨w1, w2, w3, by omega, by omega, exNet ⟨rfl, rfl⟩⟩, by kernel_rfl, x.net a 8, x.net a 9, exF ⟨w1, w2, w3, by omega, by omega, exNet ⟨rfl, rfl⟩⟩, by omega, by omega, by omega, by omega, tell_step hT⟩
     · subst hg
       have hno := trOk_no (c := 3) (by omega) hn
       rw [(noR hno).1, (noR hno).2]
       exact ⟨rfl, fun _ _ => ⟨rfl, rfl⟩, rfl, fun _ _ => ⟨rfl, rfl⟩, rfl, rfl, fun _ _ => ⟨rfl, rfl, rfl, rfl, rfl, rfl, rfl, rfl, rfl, rfl⟩, rfl⟩
     subst hg
     have k3 : tells x t 3 = true := by rw [Bool.not_eq_false'] at hn; exact hn
     have n3 : t.nSN = x.k := tells_n k3
     subst eg
     refine ⟨⟨0, by omega, rfl, rfl, rfl, fun i hi => absurd hi (Nat.not_lt_zero i)⟩, fun a b ⟨hb, ha⟩ => ⟨fun hlt => ⟨by omega, by omega, by omega, by omega, by omega, by omega, a + 1, by omega, by omega, by omega, rfl, rfl, fun i hi => ?_⟩, fun hge => ⟨⟨0, by omega, rfl, fun i hi => ⟨ntS_0.symm, ntS_0.symm, ntS_0.symm, ntS_0.symm, ntS_0.symm, ntS_0.symm, ntS_0.symm, ntS_0.symm, ntS_0.symm, ntS_0.symm⟩⟩, fun m b1 ⟨hb1, hm⟩ => ⟨fun hlt => ?_, fun hge2 => ?_⟩⟩⟩⟩
     · subst hb
       by_cases c : i < a
       · rw [if_pos c]; exact ⟨rfl, rfl⟩
       · obtain rfl : i = a := by omega
         rw [if_neg c, if_pos (by omega)]; exact ⟨rfl, rfl⟩
     · subst hb1
       exact ⟨by omega, by omega, by omega, by omega, by omega, by omega, m + 1, by omega, by omega, by omega, fun i hi => ⟨ntS_step (by omega), ntS_step (by omega), ntS_step (by omega), ntS_step (by omega), ntS_step (by omega), ntS_step (by omega), ntS_step (by omega), ntS_step (by omega), ntS_set (by omega), ntS_set (by omega)⟩⟩
     · subst hb1
       subst hb
       have ea : a = x.hE := by omega
       have em : m = x.k := by omega
       subst em
       exact ⟨by omega, by omega, 2, by omega, fun _ => h1 (by omega), fun _ => ⟨k1, k3⟩, by omega, rfl, rfl, ea, rfl, fun _ _ => trivial, ea, fun i hi => ⟨rfl, rfl⟩, fun i hi => ⟨ntS_end (by omega) (by omega), ntS_end (by omega) (by omega), ntS_end (by omega) (by omega), ntS_end (by omega) (by omega), ntS_end (by omega) (by omega), ntS_end (by omega) (by omega), ntS_end (by omega) (by omega), ntS_end (by omega) (by omega), ntS_end (by omega) (by omega), ntS_end (by omega) (by omega)⟩⟩
   · obtain ⟨k0, k2⟩ := h1 (by omega)
     obtain ⟨k1, k3⟩ := h2 (by omega)
     have ok := trOk_of k0 k2 k1 k3
     have eR : trR x t = trF x t := by unfold trR; rw [if_pos hc, if_pos ok]
     have eE : trE x t = 0 := by unfold trE; rw [if_pos hc, if_pos ok]
     rw [eR, eE]
     exact ⟨rfl, fun _ _ => ⟨rfl, rfl⟩, rfl, fun _ _ => ⟨rfl, rfl⟩, rfl, rfl, fun _ _ => ⟨rfl, rfl, rfl, rfl, rfl, rfl, rfl, rfl, rfl, rfl⟩, rfl⟩
end Go.Proofs.YtcfmdhlohahhcaaDoor
namespace Go.Proofs.YtcfmdhlohahhcaaDoor
open Go Go.Sx Nm
set_option maxRecDepth 100000
def sumF (f : Nat → Nat → Int) (a : Int) (n : Nat) : Int := sumN (fun j => f (a.toNat + j) 0) n
def plc (x : Fleet) (f : Nat → Nat → Int) (b k : Nat) (h : Int) : Int := x.net k b + x.net k (6 + 2 * b) * (h - x.net k 4) + sumF f (x.net k 4) (h - x.net k 4).toNat
structure PlAsk where
 x : Fleet
 k : Nat
 h : Int
def PlAsk.ok (a : PlAsk) : Prop := Nm.chk a.x = true ∧ a.x.wf ∧ a.k < a.x.k ∧ a.x.net a.k 4 ≤ a.h ∧ a.h ≤ a.x.hE
def aW1 (x : Fleet) (f : Nat → Nat → Int) (b k : Nat) (h : Int) : Ann := { G := Nat, ok := fun _ g => g ≤ (h - x.net k 4).toNat, dom := fun _ => [], tm := fun _ g => [(10, .t (intC (x.net k b + x.net k (6 + 2 * b) * (h - x.net k 4) + sumF f (x.net k 4) g))), (11, .t (intC (x.net k 4 + g)))], hp := fun _ _ => [], mu := fun _ g => (h - x.net k 4).toNat - g }
def sPlE : Sig := ⟨PlAsk, fun a => [fleetTV a.x, intC a.k, intC a.h, sideE], PlAsk.ok, fun a => [.v (intC (plc a.x a.x.e 0 a.k a.h))]⟩
def sPlN : Sig := ⟨PlAsk, fun a => [fleetTV a.x, intC a.k, intC a.h, sideN], PlAsk.ok, fun a => [.v (intC (plc a.x a.x.n 1 a.k a.h))]⟩
theorem q57e (a : sPlE.α) (ha : sPlE.pre a) : CallQ Tryd.prog E0 57 (sPlE.arg a) (sPlE.res a) := by
 obtain ⟨x, k, h⟩ := a
 refine bare_say E0_ok [(127, sTdN), (123, sTdE), (126, sSl 8), (122, sSl 6), (125, sLg 1), (120, sLg 0), (124, sAt 1), (119, sAt 0), (121, sLong), (55, sNet)] (show SigsOk Tryd.prog E0 [(127, sTdN), (123, sTdE), (126, sSl 8), (122, sSl 6), (125, sLg 1), (120, sLg 0), (124, sAt 1), (119, sAt 0), (121, sLong), (55, sNet)] from ((((((((((SigsOk.nil.cons u55 q55).cons u121 fun x _ => q121 x).cons u119 fun x _ => q119 x).cons u124 fun x _ => q124 x).cons u120 fun x _ => q120 x).cons u125 fun x _ => q125 x).cons u122 fun x _ => q122 x).cons u126 fun x _ => q126 x).cons u123 q123).cons u127 q127)) [] EvensOk.nil runs { l := [(57, 4, aW1 x x.e 0 k h)] } (fuel := 8) ?_
 refine of_red (q := ∃ (x_1 : Fleet × Int), ((True∧flq x x_1.fst)∧(True∧(↑k : Int) = x_1.snd)∧True)∧((x_1.fst.hE < (4611686018427387904 : Nat)∧x_1.fst.hN < (4611686018427387904 : Nat)∧x_1.fst.k < (4611686018427387904 : Nat))∧(0 : Int)≤x_1.snd∧x_1.snd < (↑x_1.fst.k : Int))∧∃ (x_2 : Nat→Int), ((True∧(((((((((True∧True∧x_1.fst.net x_1.snd.toNat 0 = x_2 0)∧True∧x_1.fst.net x_1.snd.toNat 1 = x_2 1)∧True∧x_1.fst.net x_1.snd.toNat 2 = x_2 2)∧True∧x_1.fst.net x_1.snd.toNat 3 = x_2 3)∧True∧x_1.fst.net x_1.snd.toNat 4 = x_2 4)∧True∧x_1.fst.net x_1.snd.toNat 5 = x_2 5)∧True∧x_1.fst.net x_1.snd.toNat 6 = x_2 6)∧True∧x_1.fst.net x_1.snd.toNat 7 = x_2 7)∧True∧x_1.fst.net x_1.snd.toNat 8 = x_2 8)∧True∧x_1.fst.net x_1.snd.toNat 9 = x_2 9)∧True)∧True∧∃ (x_3 : Nat→Int), ((True∧(((((((((True∧True∧x_1.fst.net x_1.snd.toNat 0 = x_3 0)∧True∧x_1.fst.net x_1.snd.toNat 1 = x_3 1)∧True∧x_1.fst.net x_1.snd.toNat 2 = x_3 2)∧True∧x_1.fst.net x_1.snd.toNat 3 = x_3 3)∧True∧x_1.fst.net x_1.snd.toNat 4 = x_3 4)∧True∧x_1.fst.net x_1.snd.toNat 5 = x_3 5)∧True∧x_1.fst.net x_1.snd.toNat 6 = x_3 6)∧True∧x_1.fst.net x_1.snd.toNat 7 = x_3 7)∧True∧x_1.fst.net x_1.snd.toNat 8 = x_3 8)∧True∧x_1.fst.net x_1.snd.toNat 9 = x_3 9)∧True)∧True∧inRange IntKind.i64 (h - x_1.fst.net x_1.snd.toNat ((0 : Nat) + (nat_lit 3 + (1 : Nat))))∧inRange IntKind.i64 (x_3 (6 : Nat) * (h - x_1.fst.net x_1.snd.toNat ((0 : Nat) + (nat_lit 3 + (1 : Nat)))))∧inRange IntKind.i64 (x_2 (0 : Nat) + x_3 (6 : Nat) * (h - x_1.fst.net x_1.snd.toNat ((0 : Nat) + (nat_lit 3 + (1 : Nat)))))∧(∃ (g : Nat), g≤(h - x.net k (4 : Nat)).toNat∧True∧((True∧x_2 (0 : Nat) + x_3 (6 : Nat) * (h - x_1.fst.net x_1.snd.toNat ((0 : Nat) + (nat_lit 3 + (1 : Nat)))) = x.net k (0 : Nat) + x.net k ((6 : Nat) + (2 : Nat) * (0 : Nat)) * (h - x.net k (4 : Nat)) + sumF x.e (x.net k (4 : Nat)) g)∧(True∧x_1.fst.net x_1.snd.toNat ((0 : Nat) + (nat_lit 3 + (1 : Nat))) = x.net k (4 : Nat) + (↑g : Int))∧True)∧True)∧∀ (g : Nat), g≤(h - x.net k (4 : Nat)).toNat→(decide (x.net k (4 : Nat) + (↑g : Int) < h) = true→∃ (x_4 : Fleet), ((True∧flq x x_4)∧True)∧(x_4.hE < (4611686018427387904 : Nat)∧x_4.hN < (4611686018427387904 : Nat)∧x_4.k < (4611686018427387904 : Nat))∧(0 : Int)≤x.net k (4 : Nat) + (↑g : Int)∧x.net k (4 : Nat) + (↑g : Int) < (↑x_4.hE : Int)∧inRange IntKind.i64 (x.net k (0 : Nat) + x.net k ((6 : Nat) + (2 : Nat) * (0 : Nat)) * (h - x.net k (4 : Nat)) + sumF x.e (x.net k (4 : Nat)) g + x_4.e (x.net k (4 : Nat) + (↑g : Int)).toNat (0 : Nat))∧inRange IntKind.i64 (x.net k (4 : Nat) + (↑g : Int) + (1 : Int))∧∃ (g' : Nat), g'≤(h - x.net k (4 : Nat)).toNat∧(h - x.net k (4 : Nat)).toNat - g' < (h - x.net k (4 : Nat)).toNat - g∧True∧((True∧x.net k (0 : Nat) + x.net k ((6 : Nat) + (2 : Nat) * (0 : Nat)) * (h - x.net k (4 : Nat)) + sumF x.e (x.net k (4 : Nat)) g + x_4.e (x.net k (4 : Nat) + (↑g : Int)).toNat (0 : Nat) = x.net k (0 : Nat) + x.net k ((6 : Nat) + (2 : Nat) * (0 : Nat)) * (h - x.net k (4 : Nat)) + sumF x.e (x.net k (4 : Nat)) g')∧(True∧x.net k (4 : Nat) + (↑g : Int) + (1 : Int) = x.net k (4 : Nat) + (↑g' : Int))∧True)∧True)∧(decide (x.net k (4 : Nat) + (↑g : Int) < h) = false→True∧x.net k (0 : Nat) + x.net k ((6 : Nat) + (2 : Nat) * (0 : Nat)) * (h - x.net k (4 : Nat)) + sumF x.e (x.net k (4 : Nat)) g = plc x x.e (0 : Nat) k h)) (by kernel_rfl) ?_
 simp only [flq, true_and, and_true, inR, Prod.exists, Prod.forall, and_assoc, exists_and_left, exists_eq_left', exists_eq_left, forall_eq, exists_const, forall_const, loopN, loopM, fa2, fas, fas2, dup1, dup2, dup3, dup4, ite_true, exhs, exhn, exhz, exho, exA, ex1, ex2, ex3, ex4, ex5, beqI, bneI, decide_true, Bool.true_and, decide_eq_true_eq, decide_eq_false_iff_not, ne_eq, Decidable.not_not]
 simp only [Int.toNat_natCast, Nat.reduceAdd, Nat.reduceMul]
 obtain ⟨hc, ⟨w1, w2, w3⟩, hk, h1, h2⟩ := (show Nm.chk x = true ∧ x.wf ∧ k < x.k ∧ x.net k 4 ≤ h ∧ h ≤ x.hE from ha)
 obtain ⟨s1, s2, s3, s4, s5, s6, s7⟩ := chk_size hc
 obtain ⟨⟨i1, i2⟩, ⟨j1, j2⟩, _, _, ⟨i3, i4⟩, _, ⟨i5, i6, i7⟩, j5, j6, j7⟩ := chk_net hc hk
 have m : -1200 ≤ x.net k 6 * (h - x.net k 4) ∧ x.net k 6 * (h - x.net k 4) ≤ 1200 := by
   have q : (x.net k 6).natAbs * (h - x.net k 4).natAbs ≤ 50 * 24 := Nat.mul_le_mul (by omega) (by omega)
   rw [← Int.natAbs_mul] at q
   omega
 have bd : ∀ n, n ≤ (h - x.net k 4).toNat → -4800 ≤ sumF x.e (x.net k 4) n ∧ sumF x.e (x.net k 4) n ≤ 4800 := fun n hn => by
   have q := sumN_bd (g := fun j => x.e ((x.net k 4).toNat + j) 0) (c := 200) (n := n) (fun j hj' => by
     have hj : (x.net k 4).toNat + j < x.hE := by omega
     have := (chk_hour hc hj).1
     show -200 ≤ x.e ((x.net k 4).toNat + j) 0 ∧ x.e ((x.net k 4).toNat + j) 0 ≤ 200
     omega)
   show -4800 ≤ sumN (fun j => x.e ((x.net k 4).toNat + j) 0) n ∧ sumN (fun j => x.e ((x.net k 4).toNat + j) 0) n ≤ 4800
   omega
 refine exF ⟨w1, w2, w3, by omega, by omega, exNet (exNet ⟨by omega, by omega, by omega, by omega, by omega, by omega, ⟨0, by omega, (Int.add_zero _).symm, by omega⟩, fun g hg => ⟨fun hlt => exF ⟨w1, w2, w3, by omega, by omega, ?_⟩, fun hge => ?_⟩⟩)⟩
 · have e1 : (x.net k 4 + (g : Int)).toNat = (x.net k 4).toNat + g := by omega
   have q1 := bd g hg
   have hj : (x.net k 4).toNat + g < x.hE := by omega
   have q2 := (chk_hour hc hj).1
   rw [e1]
   refine ⟨by omega, by omega, by omega, by omega, g + 1, by omega, by omega, ?_, by omega⟩
   have e2 : sumF x.e (x.net k 4) (g + 1) = sumF x.e (x.net k 4) g + x.e ((x.net k 4).toNat + g) 0 := rfl
   rw [e2]; omega
 · obtain rfl : g = (h - x.net k 4).toNat := by omega
   rfl
theorem q57n (a : sPlN.α) (ha : sPlN.pre a) : CallQ Tryd.prog E0 57 (sPlN.arg a) (sPlN.res a) := by
 obtain ⟨x, k, h⟩ := a
 refine bare_say E0_ok [(127, sTdN), (123, sTdE), (126, sSl 8), (122, sSl 6), (125, sLg 1), (120, sLg 0), (124, sAt 1), (119, sAt 0), (121, sLong), (55, sNet)] (show SigsOk Tryd.prog E0 [(127, sTdN), (123, sTdE), (126, sSl 8), (122, sSl 6), (125, sLg 1), (120, sLg 0), (124, sAt 1), (119, sAt 0), (121, sLong), (55, sNet)] from ((((((((((SigsOk.nil.cons u55 q55).cons u121 fun x _ => q121 x).cons u119 fun x _ => q119 x).cons u124 fun x _ => q124 x).cons u120 fun x _ => q120 x).cons u125 fun x _ => q125 x).cons u122 fun x _ => q122 x).cons u126 fun x _ => q126 x).cons u123 q123).cons u127 q127)) [] EvensOk.nil runs { l := [(57, 4, aW1 x x.n 1 k h)] } (fuel := 8) ?_
 refine of_red (q := ∃ (x_1 : Fleet × Int), ((True∧flq x x_1.fst)∧(True∧(↑k : Int) = x_1.snd)∧True)∧((x_1.fst.hE < (4611686018427387904 : Nat)∧x_1.fst.hN < (4611686018427387904 : Nat)∧x_1.fst.k < (4611686018427387904 : Nat))∧(0 : Int)≤x_1.snd∧x_1.snd < (↑x_1.fst.k : Int))∧∃ (x_2 : Nat→Int), ((True∧(((((((((True∧True∧x_1.fst.net x_1.snd.toNat 0 = x_2 0)∧True∧x_1.fst.net x_1.snd.toNat 1 = x_2 1)∧True∧x_1.fst.net x_1.snd.toNat 2 = x_2 2)∧True∧x_1.fst.net x_1.snd.toNat 3 = x_2 3)∧True∧x_1.fst.net x_1.snd.toNat 4 = x_2 4)∧True∧x_1.fst.net x_1.snd.toNat 5 = x_2 5)∧True∧x_1.fst.net x_1.snd.toNat 6 = x_2 6)∧True∧x_1.fst.net x_1.snd.toNat 7 = x_2 7)∧True∧x_1.fst.net x_1.snd.toNat 8 = x_2 8)∧True∧x_1.fst.net x_1.snd.toNat 9 = x_2 9)∧True)∧True∧∃ (x_3 : Nat→Int), ((True∧(((((((((True∧True∧x_1.fst.net x_1.snd.toNat 0 = x_3 0)∧True∧x_1.fst.net x_1.snd.toNat 1 = x_3 1)∧True∧x_1.fst.net x_1.snd.toNat 2 = x_3 2)∧True∧x_1.fst.net x_1.snd.toNat 3 = x_3 3)∧True∧x_1.fst.net x_1.snd.toNat 4 = x_3 4)∧True∧x_1.fst.net x_1.snd.toNat 5 = x_3 5)∧True∧x_1.fst.net x_1.snd.toNat 6 = x_3 6)∧True∧x_1.fst.net x_1.snd.toNat 7 = x_3 7)∧True∧x_1.fst.net x_1.snd.toNat 8 = x_3 8)∧True∧x_1.fst.net x_1.snd.toNat 9 = x_3 9)∧True)∧True∧inRange IntKind.i64 (h - x_1.fst.net x_1.snd.toNat ((0 : Nat) + (nat_lit 3 + (1 : Nat))))∧inRange IntKind.i64 (x_3 (8 : Nat) * (h - x_1.fst.net x_1.snd.toNat ((0 : Nat) + (nat_lit 3 + (1 : Nat)))))∧inRange IntKind.i64 (x_2 (1 : Nat) + x_3 (8 : Nat) * (h - x_1.fst.net x_1.snd.toNat ((0 : Nat) + (nat_lit 3 + (1 : Nat)))))∧(∃ (g : Nat), g≤(h - x.net k (4 : Nat)).toNat∧True∧((True∧x_2 (1 : Nat) + x_3 (8 : Nat) * (h - x_1.fst.net x_1.snd.toNat ((0 : Nat) + (nat_lit 3 + (1 : Nat)))) = x.net k (1 : Nat) + x.net k ((6 : Nat) + (2 : Nat) * (1 : Nat)) * (h - x.net k (4 : Nat)) + sumF x.n (x.net k (4 : Nat)) g)∧(True∧x_1.fst.net x_1.snd.toNat ((0 : Nat) + (nat_lit 3 + (1 : Nat))) = x.net k (4 : Nat) + (↑g : Int))∧True)∧True)∧∀ (g : Nat), g≤(h - x.net k (4 : Nat)).toNat→(decide (x.net k (4 : Nat) + (↑g : Int) < h) = true→∃ (x_4 : Fleet), ((True∧flq x x_4)∧True)∧(x_4.hE < (4611686018427387904 : Nat)∧x_4.hN < (4611686018427387904 : Nat)∧x_4.k < (4611686018427387904 : Nat))∧(0 : Int)≤x.net k (4 : Nat) + (↑g : Int)∧x.net k (4 : Nat) + (↑g : Int) < (↑x_4.hN : Int)∧inRange IntKind.i64 (x.net k (1 : Nat) + x.net k ((6 : Nat) + (2 : Nat) * (1 : Nat)) * (h - x.net k (4 : Nat)) + sumF x.n (x.net k (4 : Nat)) g + x_4.n (x.net k (4 : Nat) + (↑g : Int)).toNat (0 : Nat))∧inRange IntKind.i64 (x.net k (4 : Nat) + (↑g : Int) + (1 : Int))∧∃ (g' : Nat), g'≤(h - x.net k (4 : Nat)).toNat∧(h - x.net k (4 : Nat)).toNat - g' < (h - x.net k (4 : Nat)).toNat - g∧True∧((True∧x.net k (1 : Nat) + x.net k ((6 : Nat) + (2 : Nat) * (1 : Nat)) * (h - x.net k (4 : Nat)) + sumF x.n (x.net k (4 : Nat)) g + x_4.n (x.net k (4 : Nat) + (↑g : Int)).toNat (0 : Nat) = x.net k (1 : Nat) + x.net k ((6 : Nat) + (2 : Nat) * (1 : Nat)) * (h - x.net k (4 : Nat)) + sumF x.n (x.net k (4 : Nat)) g')∧(True∧x.net k (4 : Nat) + (↑g : Int) + (1 : Int) = x.net k (4 : Nat) + (↑g' : Int))∧True)∧True)∧(decide (x.net k (4 : Nat) + (↑g : Int) < h) = false→True∧x.net k (1 : Nat) + x.net k ((6 : Nat) + (2 : Nat) * (1 : Nat)) * (h - x.net k (4 : Nat)) + sumF x.n (x.net k (4 : Nat)) g = plc x x.n (1 : Nat) k h)) (by kernel_rfl) ?_
 simp only [flq, true_and, and_true, inR, Prod.exists, Prod.forall, and_assoc, exists_and_left, exists_eq_left', exists_eq_left, forall_eq, exists_const, forall_const, loopN, loopM, fa2, fas, fas2, dup1, dup2, dup3, dup4, ite_true, exhs, exhn, exhz, exho, exA, ex1, ex2, ex3, ex4, ex5, beqI, bneI, decide_true, Bool.true_and, decide_eq_true_eq, decide_eq_false_iff_not, ne_eq, Decidable.not_not]
 simp only [Int.toNat_natCast, Nat.reduceAdd, Nat.reduceMul]
 obtain ⟨hc, ⟨w1, w2, w3⟩, hk, h1, h2⟩ := (show Nm.chk x = true ∧ x.wf ∧ k < x.k ∧ x.net k 4 ≤ h ∧ h ≤ x.hE from ha)
 obtain ⟨s1, s2, s3, s4, s5, s6, s7⟩ := chk_size hc
 obtain ⟨⟨i1, i2⟩, ⟨j1, j2⟩, _, _, ⟨i3, i4⟩, _, ⟨i5, i6, i7⟩, j5, j6, j7⟩ := chk_net hc hk
 have m : -1200 ≤ x.net k 8 * (h - x.net k 4) ∧ x.net k 8 * (h - x.net k 4) ≤ 1200 := by
   have q : (x.net k 8).natAbs * (h - x.net k 4).natAbs ≤ 50 * 24 := Nat.mul_le_mul (by omega) (by omega)
   rw [← Int.natAbs_mul] at q
   omega
 have bd : ∀ n, n ≤ (h - x.net k 4).toNat → -4800 ≤ sumF x.n (x.net k 4) n ∧ sumF x.n (x.net k 4) n ≤ 4800 := fun n hn => by
   have q := sumN_bd (g := fun j => x.n ((x.net k 4).toNat + j) 0) (c := 200) (n := n) (fun j hj' => by
     have hj : (x.net k 4).toNat + j < x.hE := by omega
     have := (chk_hour hc hj).2
     show -200 ≤ x.n ((x.net k 4).toNat + j) 0 ∧ x.n ((x.net k 4).toNat + j) 0 ≤ 200
     omega)
   show -4800 ≤ sumN (fun j => x.n ((x.net k 4).toNat + j) 0) n ∧ sumN (fun j => x.n ((x.net k 4).toNat + j) 0) n ≤ 4800
   omega
 refine exF ⟨w1, w2, w3, by omega, by omega, exNet (exNet ⟨by omega, by omega, by omega, by omega, by omega, by omega, ⟨0, by omega, (Int.add_zero _).symm, by omega⟩, fun g hg => ⟨fun hlt => exF ⟨w1, w2, w3, by omega, by omega, ?_⟩, fun hge => ?_⟩⟩)⟩
 · have e1 : (x.net k 4 + (g : Int)).toNat = (x.net k 4).toNat + g := by omega
   have q1 := bd g hg
   have hj : (x.net k 4).toNat + g < x.hE := by omega
   have q2 := (chk_hour hc hj).2
   rw [e1]
   refine ⟨by omega, by omega, by omega, by omega, g + 1, by omega, by omega, ?_, by omega⟩
   have e2 : sumF x.n (x.net k 4) (g + 1) = sumF x.n (x.net k 4) g + x.n ((x.net k 4).toNat + g) 0 := rfl
   rw [e2]; omega
 · obtain rfl : g = (h - x.net k 4).toNat := by omega
   rfl
def sPl : Sig := ⟨PlAsk × Nat, fun a => [fleetTV a.1.x, intC a.1.k, intC a.1.h, sideB a.2], fun a => a.1.ok ∧ a.2 ≤ 1, fun a => [.v (intC (plc a.1.x (td a.1.x a.2) a.2 a.1.k a.1.h))]⟩
theorem q57 (a : sPl.α) (ha : sPl.pre a) : CallQ Tryd.prog E0 57 (sPl.arg a) (sPl.res a) := by
 obtain ⟨a, b⟩ := a
 obtain ⟨h1, h2⟩ := ha
 have h2 : b ≤ 1 := h2
 match b, h2 with
 | 0, _ => exact q57e a h1
 | 1, _ => exact q57n a h1
end Go.Proofs.YtcfmdhlohahhcaaDoor
