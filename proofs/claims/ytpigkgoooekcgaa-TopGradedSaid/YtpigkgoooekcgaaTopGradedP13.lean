/- Texts for the law of the last part, part 13. -/
import Derived.Test.YtpigkgoooekcgaaTopGradedP12
import Derived.ChangeArms
import Derived.ChangeShapes
import Derived.OpenShut
import Derived.Carry
import Derived.Handed
import Derived.LaidMore
import Derived.ProofKit
import Derived.SizedLaws
set_option linter.unusedSimpArgs false
set_option linter.unusedVariables false
namespace Go.Proofs.Ytpigkgoooekcgaa
open Go Go.Sx Bm
set_option maxRecDepth 100000
set_option maxHeartbeats 4000000
def tmI (v : AV) : Int := match v with | .t (.c (.int _ n)) => n | _ => 0
def cG0 (u : Nat) : Ann := { G := Unit, ok := fun _ _ => True, dom := fun _ => [], tm := fun _ _ => [(12, .t (intC u))], hp := fun _ _ => [], mu := fun _ _ => 0 }
def TK : List (Nat × Sig) := (15, sPro) :: (7, sYes) :: TJ0
theorem TK_ok : SigsOk Try.prog E0 TK := (TJ0_ok.cons (runs 7 (by kernel_rfl)) fun x _ => q7 x).cons (runs 15 (by kernel_rfl)) q15
def aG1 (s : Nat → Nat → Int) (a u : Nat) : Ann := { G := Nat, ok := fun _ d => a + d ≤ u, dom := fun _ => [], tm := fun _ d => [(14, .t (intC ((a + d : Nat) : Int))), (13, .t (intC (grD s a d)))], hp := fun _ _ => [], mu := fun _ d => u - a - d }
def aG2 (a u : Nat) : Ann := { G := Nat, ok := fun _ d => a + d ≤ u, dom := fun st => [st.nx], tm := fun st d => [(16, .t (intC ((a + d : Nat) : Int))), (15, .t (.c (.os st.nx 4 d)))], hp := fun st d => [(st.nx, .slot 15, some (.row 41 4 d (fun k j => .int .i64 (grBar (tmI (st.tm 13)) k j))))], mu := fun _ d => u - a - d }
def aG3 (N : Nat) (r : Nat → Int) : Ann := { G := Nat, ok := fun _ q => q ≤ N + 1 ∧ (0 < q → ruledE N r = 0), dom := fun _ => [], tm := fun _ q => [(20, .t (intC q)), (19, .t (.c (.bool (anyK N r q))))], hp := fun _ _ => [], mu := fun _ q => N + 1 - q }
structure TgIn where
 n : Nat
 s : Nat → Nat → Int
 r : Nat → Int
 k : Int
def sTg : Sig := ⟨TgIn, fun x => [.c (spansCV x.n x.s), arrTV 6 x.r, intC x.k], fun x => x.n < 4611686018427387904, fun _ => [.v (.c (.bool true))]⟩
def kOf (x : TgIn) : Nat := (x.k % ((lotsL x.s x.n).length : Nat)).toNat
def frmOf (x : TgIn) : Nat := ((lotsL x.s x.n).getD (kOf x) 0).toNat
def untOf (x : TgIn) : Nat := (toI x.n (lotsL x.s x.n).length (fun k => (lotsL x.s x.n).getD k 0) (kOf x)).toNat
theorem exAr {n : Nat} {s : Nat → Nat → Int} {m : Nat} {f : Nat → Int} {R : AreIn → Prop} (h : R ⟨n, s, m, f⟩) : ∃ x : AreIn, n = x.n ∧ (∀ i, i < n → s i 0 = x.s i 0 ∧ s i 1 = x.s i 1) ∧ m = x.m ∧ (∀ i, i < m → f i = x.f i) ∧ R x := ⟨⟨n, s, m, f⟩, rfl, fun _ _ => ⟨rfl, rfl⟩, rfl, fun _ _ => rfl, h⟩
theorem kE_ok {N q : Nat} {r : Nat → Int} (n1 : 1 ≤ N) (n2 : N ≤ 40) (hq : q ≤ N) : (keepsE N r N q = 0 → ruledE N r = 0) ∧ (¬ keepsE N r N q = 0 → keepsE N r N q = 71) := by
 have w : within (N : Int) 1 40 = true := Bm.within_iff.2 ⟨by omega, by omega⟩
 have pl : planOk N N q = true := by
   unfold planOk
   rw [Bool.and_eq_true, Bm.within_iff, Bm.within_iff]
   omega
 by_cases c : ruleOk N r = true
 · have e := ruled_0 w c
   have k := (kE_0 (N := N) (o := N) (a := q) e pl).1
   exact ⟨fun _ => e, fun h => absurd k h⟩
 · have e := ruled_71 (r := r) w c
   have k := (kE_bad (N := N) (r := r) (o := N) (a := q) (by rw [e]; decide)).1
   exact ⟨fun h => by rw [k, e] at h; exact absurd h (by decide), fun _ => by rw [k, e]⟩
theorem q3g (x : TgIn) (a u : Nat) (h : x.n < 4611686018427387904) (ha : a = frmOf x) (hu : u = untOf x) : CallQ Try.prog E0 3 (sTg.arg x) (sTg.res x) := by
 obtain ⟨n, s, r, k⟩ := x
 refine bare_say E0_ok TK TK_ok [] EvensOk.nil runs { l := [(3, 13, aG1 s a u), (3, 18, aG2 a u), (3, 29, aG3 (u - a) r)], c := [(3, 9, cG0 u)] } (fuel := 5) ?_
 refine of_red (q := ∃ (x : SpsIn), ((True∧True∧n = x.n∧∀ (i : Nat), i < n→(True∧s i 0 = x.s i 0)∧s i 1 = x.s i 1)∧True)∧x.n < (4611686018427387904 : Nat)∧(((if loadsOk x.n x.s = true then (0 : Int) else (43 : Int)) != (0 : Int)) = true→(((if loadsOk x.n x.s = true then (0 : Int) else (43 : Int)) == (43 : Int)) = true→(((↑(lotsN x.n x.s) : Int) == (0 : Int)) = true→∃ (x : Unit), True∧True∧True∧true = true)∧(((↑(lotsN x.n x.s) : Int) == (0 : Int)) = false→True∧true = false))∧(((if loadsOk x.n x.s = true then (0 : Int) else (43 : Int)) == (43 : Int)) = false→True∧true = false))∧(((if loadsOk x.n x.s = true then (0 : Int) else (43 : Int)) != (0 : Int)) = false→(((↑(lotsN x.n x.s) : Int) == (0 : Int)) = true→(((if loadsOk x.n x.s = true then (0 : Int) else (43 : Int)) == (43 : Int)) = true→(((↑(lotsN x.n x.s) : Int) == (0 : Int)) = true→∃ (x : Unit), True∧True∧True∧true = true)∧(((↑(lotsN x.n x.s) : Int) == (0 : Int)) = false→True∧true = false))∧(((if loadsOk x.n x.s = true then (0 : Int) else (43 : Int)) == (43 : Int)) = false→True∧true = false))∧(((↑(lotsN x.n x.s) : Int) == (0 : Int)) = false→(decide ((40 : Int) < (↑n : Int)) = true→(((if loadsOk x.n x.s = true then (0 : Int) else (43 : Int)) == (43 : Int)) = true→(((↑(lotsN x.n x.s) : Int) == (0 : Int)) = true→∃ (x : Unit), True∧True∧True∧true = true)∧(((↑(lotsN x.n x.s) : Int) == (0 : Int)) = false→True∧true = false))∧(((if loadsOk x.n x.s = true then (0 : Int) else (43 : Int)) == (43 : Int)) = false→True∧true = false))∧(decide ((40 : Int) < (↑n : Int)) = false→∃ (x_1 : AreIn), ((True∧True∧n = x_1.n∧∀ (i : Nat), i < n→(True∧s i 0 = x_1.s i 0)∧s i 1 = x_1.s i 1)∧(True∧True∧lotsN x.n x.s = x_1.m∧∀ (i : Nat), i < lotsN x.n x.s→True∧(lotsL x.s x.n).getD i (0 : Int) = x_1.f i)∧True)∧(x_1.n < (4611686018427387904 : Nat)∧x_1.m < (4611686018427387904 : Nat)∧∀ (k : Nat), k < x_1.m→(0 : Int)≤x_1.f k∧x_1.f k≤(1000 : Int))∧∃ (x_2 : Int × Int), ((True∧k = x_2.fst)∧(True∧(↑(lotsN x.n x.s) : Int) = x_2.snd)∧True)∧((0 : Int) < x_2.snd∧x_2.snd≤(4611686018427387904 : Int))∧(0 : Int)≤x_2.fst % x_2.snd∧x_2.fst % x_2.snd < (↑(lotsN x.n x.s) : Int)∧(inRange IntKind.i64 (x_2.fst % x_2.snd + (1 : Int))∧(decide (x_2.fst % x_2.snd + (1 : Int) < (↑(lotsN x.n x.s) : Int)) = true→inRange IntKind.i64 (x_2.fst % x_2.snd + (1 : Int))∧(0 : Int)≤x_2.fst % x_2.snd + (1 : Int)∧x_2.fst % x_2.snd + (1 : Int) < (↑(lotsN x.n x.s) : Int)∧∃ (g : Unit), True∧True∧((True∧(lotsL x.s x.n).getD (x_2.fst % x_2.snd + (1 : Int)).toNat (0 : Int) = (↑u : Int))∧True)∧True)∧(decide (x_2.fst % x_2.snd + (1 : Int) < (↑(lotsN x.n x.s) : Int)) = false→∃ (g : Unit), True∧True∧((True∧(↑n : Int) = (↑u : Int))∧True)∧True))∧∀ (g : Unit), True→(((if loadsOk x_1.n x_1.s = true then (0 : Int) else (43 : Int)) != (0 : Int)) = true→True∧true = false)∧(((if loadsOk x_1.n x_1.s = true then (0 : Int) else (43 : Int)) != (0 : Int)) = false→((!(loadsOk x_1.n x_1.s && areLots x_1.n x_1.s x_1.m x_1.f)) = true→True∧true = false)∧((!(loadsOk x_1.n x_1.s && areLots x_1.n x_1.s x_1.m x_1.f)) = false→inRange IntKind.i64 ((↑n : Int) - (1 : Int))∧∃ (x_3 : Int × Int × Int), ((True∧(lotsL x.s x.n).getD (x_2.fst % x_2.snd).toNat (0 : Int) = x_3.fst)∧(True∧(0 : Int) = x_3.snd.fst)∧(True∧(↑n : Int) - (1 : Int) = x_3.snd.snd)∧True)∧True∧((!within x_3.fst x_3.snd.fst x_3.snd.snd) = true→True∧true = false)∧((!within x_3.fst x_3.snd.fst x_3.snd.snd) = false→inRange IntKind.i64 ((lotsL x.s x.n).getD (x_2.fst % x_2.snd).toNat (0 : Int) + (1 : Int))∧∃ (x_4 : Int × Int × Int), ((True∧(↑u : Int) = x_4.fst)∧(True∧(lotsL x.s x.n).getD (x_2.fst % x_2.snd).toNat (0 : Int) + (1 : Int) = x_4.snd.fst)∧(True∧(↑n : Int) = x_4.snd.snd)∧True)∧True∧((!within x_4.fst x_4.snd.fst x_4.snd.snd) = true→True∧true = false)∧((!within x_4.fst x_4.snd.fst x_4.snd.snd) = false→(∃ (g : Nat), a + g≤u∧True∧((True∧(lotsL x.s x.n).getD (x_2.fst % x_2.snd).toNat (0 : Int) = (↑(a + g) : Int))∧(True∧(0 : Int) = grD s a g)∧True)∧True)∧∀ (g : Nat), a + g≤u→(decide ((↑(a + g) : Int) < (↑u : Int)) = true→(0 : Int)≤(↑(a + g) : Int)∧(↑(a + g) : Int) < (↑n : Int)∧inRange IntKind.i64 ((↑(a + g) : Int) + (1 : Int))∧∃ (g' : Nat), a + g'≤u∧u - a - g' < u - a - g∧True∧((True∧(↑(a + g) : Int) + (1 : Int) = (↑(a + g') : Int))∧(True∧imax (grD s a g) (s (a + g) (0 : Nat)) = grD s a g')∧True)∧True)∧(decide ((↑(a + g) : Int) < (↑u : Int)) = false→(∃ (g : Nat), a + g≤u∧True∧((True∧(lotsL x.s x.n).getD (x_2.fst % x_2.snd).toNat (0 : Int) = (↑(a + g) : Int))∧(True∧g = (0 : Nat))∧True)∧g = (0 : Nat)∧True)∧∀ (g_1 : Nat), a + g_1≤u→(decide ((↑(a + g_1) : Int) < (↑u : Int)) = true→(0 : Int)≤(↑(a + g_1) : Int)∧(↑(a + g_1) : Int) < (↑n : Int)∧∃ (x : (Int × Int) × Int), ((True∧(True∧True∧s (a + g_1) 0 = x.fst.fst)∧True∧s (a + g_1) 1 = x.fst.snd)∧(True∧grD s a g = x.snd)∧True)∧True∧((!within x.snd x.fst.fst x.fst.snd) = true→True∧true = false)∧((!within x.snd x.fst.fst x.fst.snd) = false→(g_1 + (1 : Nat)) * (32 : Nat)≤(140737488355328 : Nat)∧g_1 + (1 : Nat) < (4611686018427387904 : Nat)∧inRange IntKind.i64 ((↑(a + g_1) : Int) + (1 : Int))∧∃ (g' : Nat), a + g'≤u∧u - a - g' < u - a - g_1∧True∧((True∧(↑(a + g_1) : Int) + (1 : Int) = (↑(a + g') : Int))∧(True∧True∧g_1 + (1 : Nat) = g')∧True)∧(True∧True∧g_1 + (1 : Nat) = g'∧∀ (i : Nat), i < g_1 + (1 : Nat)→(((True∧(if i < g_1 then grBar (tmI (AV.t (intC (grD s a g)))) i 0 else if i - g_1 = (0 : Nat) then grD s a g else (0 : Int)) = grBar (tmI (AV.t (intC (grD s a g)))) i 0)∧(if i < g_1 then grBar (tmI (AV.t (intC (grD s a g)))) i 1 else if i - g_1 = (0 : Nat) then (0 : Int) else (0 : Int)) = grBar (tmI (AV.t (intC (grD s a g)))) i 1)∧(if i < g_1 then grBar (tmI (AV.t (intC (grD s a g)))) i 2 else if i - g_1 = (0 : Nat) then (0 : Int) else (0 : Int)) = grBar (tmI (AV.t (intC (grD s a g)))) i 2)∧(if i < g_1 then grBar (tmI (AV.t (intC (grD s a g)))) i 3 else if i - g_1 = (0 : Nat) then (0 : Int) else (0 : Int)) = grBar (tmI (AV.t (intC (grD s a g)))) i 3)∧True))∧(decide ((↑(a + g_1) : Int) < (↑u : Int)) = false→∃ (x : Int × Int), ((True∧grD s a g = x.fst)∧(True∧grD s a g = x.snd)∧True)∧True∧(0 : Int)≤(0 : Int)∧(0 : Int) < (↑g_1 : Int)∧∃ (x_5 : (Nat × (Nat→Nat→Int)) × (Nat→Int)), ((True∧True∧(1 : Nat) = x_5.fst.fst∧∀ (i : Nat), i < (1 : Nat)→(((((((True∧(if i = (0 : Nat) then x.fst else (0 : Int)) = x_5.fst.snd i 0)∧(if i = (0 : Nat) then x.snd else (0 : Int)) = x_5.fst.snd i 1)∧(if i = (0 : Nat) then (0 : Int) else (0 : Int)) = x_5.fst.snd i 2)∧(if i = (0 : Nat) then (0 : Int) else (0 : Int)) = x_5.fst.snd i 3)∧(if i = (0 : Nat) then (0 : Int) else (0 : Int)) = x_5.fst.snd i 4)∧(if i = (0 : Nat) then (0 : Int) else (0 : Int)) = x_5.fst.snd i 5)∧(if i = (0 : Nat) then (0 : Int) else (0 : Int)) = x_5.fst.snd i 6)∧(if i = (0 : Nat) then (0 : Int) else (0 : Int)) = x_5.fst.snd i 7)∧(True∧(((True∧True∧grBar (tmI (AV.t (intC (grD s a g)))) (0 : Nat) 0 = x_5.snd 0)∧True∧grBar (tmI (AV.t (intC (grD s a g)))) (0 : Nat) 1 = x_5.snd 1)∧True∧grBar (tmI (AV.t (intC (grD s a g)))) (0 : Nat) 2 = x_5.snd 2)∧True∧grBar (tmI (AV.t (intC (grD s a g)))) (0 : Nat) 3 = x_5.snd 3)∧True)∧x_5.fst.fst < (4611686018427387904 : Nat)∧((gradeE x_5.fst.fst x_5.fst.snd x_5.snd != (0 : Int)) = true→True∧true = false)∧((gradeE x_5.fst.fst x_5.fst.snd x_5.snd != (0 : Int)) = false→((gradeN x_5.fst.fst x_5.fst.snd x_5.snd != (0 : Int)) = true→True∧true = false)∧((gradeN x_5.fst.fst x_5.fst.snd x_5.snd != (0 : Int)) = false→(∃ (g : Nat), (g≤u - a + (1 : Nat)∧((0 : Nat) < g→ruledE (↑(u - a) : Int) r = (0 : Int)))∧True∧((True∧(0 : Int) = (↑g : Int))∧(True∧anyK (↑(u - a) : Int) r g = false)∧True)∧True)∧∀ (g_2 : Nat), g_2≤u - a + (1 : Nat)∧((0 : Nat) < g_2→ruledE (↑(u - a) : Int) r = (0 : Int))→(decide ((↑g_2 : Int)≤(↑g_1 : Int)) = true→∃ (x : Int × (Nat→Int) × Int × Int), ((True∧(↑g_1 : Int) = x.fst)∧(True∧(((((True∧True∧r 0 = x.snd.fst 0)∧True∧r 1 = x.snd.fst 1)∧True∧r 2 = x.snd.fst 2)∧True∧r 3 = x.snd.fst 3)∧True∧r 4 = x.snd.fst 4)∧True∧r 5 = x.snd.fst 5)∧(True∧(True∧True∧(↑g_1 : Int) = x.snd.snd.fst)∧True∧(↑g_2 : Int) = x.snd.snd.snd)∧True)∧True∧((keepsE x.fst x.snd.fst x.snd.snd.fst x.snd.snd.snd != (0 : Int)) = true→((keepsE x.fst x.snd.fst x.snd.snd.fst x.snd.snd.snd == (71 : Int)) = true→∃ (x : Unit), True∧True∧True∧true = true)∧((keepsE x.fst x.snd.fst x.snd.snd.fst x.snd.snd.snd == (71 : Int)) = false→True∧true = false))∧((keepsE x.fst x.snd.fst x.snd.snd.fst x.snd.snd.snd != (0 : Int)) = false→(anyK (↑(u - a) : Int) r g_2 = true→inRange IntKind.i64 ((↑g_2 : Int) + (1 : Int))∧∃ (g' : Nat), (g'≤u - a + (1 : Nat)∧((0 : Nat) < g'→ruledE (↑(u - a) : Int) r = (0 : Int)))∧u - a + (1 : Nat) - g' < u - a + (1 : Nat) - g_2∧True∧((True∧(↑g_2 : Int) + (1 : Int) = (↑g' : Int))∧(True∧anyK (↑(u - a) : Int) r g' = true)∧True)∧True)∧(anyK (↑(u - a) : Int) r g_2 = false→inRange IntKind.i64 ((↑g_2 : Int) + (1 : Int))∧∃ (g' : Nat), (g'≤u - a + (1 : Nat)∧((0 : Nat) < g'→ruledE (↑(u - a) : Int) r = (0 : Int)))∧u - a + (1 : Nat) - g' < u - a + (1 : Nat) - g_2∧True∧((True∧(↑g_2 : Int) + (1 : Int) = (↑g' : Int))∧(True∧keepsB x.fst x.snd.fst x.snd.snd.fst x.snd.snd.snd = anyK (↑(u - a) : Int) r g')∧True)∧True)))∧(decide ((↑g_2 : Int)≤(↑g_1 : Int)) = false→∃ (x_6 : PrIn), ((True∧True∧(1 : Nat) = x_6.n∧∀ (i : Nat), i < (1 : Nat)→(((((((True∧(if i = (0 : Nat) then x.fst else (0 : Int)) = x_6.m i 0)∧(if i = (0 : Nat) then x.snd else (0 : Int)) = x_6.m i 1)∧(if i = (0 : Nat) then (0 : Int) else (0 : Int)) = x_6.m i 2)∧(if i = (0 : Nat) then (0 : Int) else (0 : Int)) = x_6.m i 3)∧(if i = (0 : Nat) then (0 : Int) else (0 : Int)) = x_6.m i 4)∧(if i = (0 : Nat) then (0 : Int) else (0 : Int)) = x_6.m i 5)∧(if i = (0 : Nat) then (0 : Int) else (0 : Int)) = x_6.m i 6)∧(if i = (0 : Nat) then (0 : Int) else (0 : Int)) = x_6.m i 7)∧(True∧(↑g_1 : Int) = x_6.N)∧(True∧(((((True∧True∧r 0 = x_6.r 0)∧True∧r 1 = x_6.r 1)∧True∧r 2 = x_6.r 2)∧True∧r 3 = x_6.r 3)∧True∧r 4 = x_6.r 4)∧True∧r 5 = x_6.r 5)∧(True∧True∧g_1 = x_6.no∧∀ (i : Nat), i < g_1→(((True∧grBar (tmI (AV.t (intC (grD s a g)))) i 0 = x_6.op i 0)∧grBar (tmI (AV.t (intC (grD s a g)))) i 1 = x_6.op i 1)∧grBar (tmI (AV.t (intC (grD s a g)))) i 2 = x_6.op i 2)∧grBar (tmI (AV.t (intC (grD s a g)))) i 3 = x_6.op i 3)∧True)∧(x_6.n < (4611686018427387904 : Nat)∧x_6.no < (4611686018427387904 : Nat))∧(anyK (↑(u - a) : Int) r g_2 = true→((prE x_6 == (0 : Int)) = true→((prW x_6 == (0 : Int)) = true→∃ (x : Unit), True∧True∧True∧true = true)∧((prW x_6 == (0 : Int)) = false→True∧true = false))∧((prE x_6 == (0 : Int)) = false→True∧true = false))∧(anyK (↑(u - a) : Int) r g_2 = false→True∧true = false)))))))))))))) (by kernel_rfl) ?_
 simp only [true_and, and_true, inR, Prod.exists, Prod.forall, and_assoc, exists_and_left, exists_eq_left', exists_eq_left, forall_eq, exists_const, forall_const, loopN, loopM, fa2, fas, fas2, dup1, dup2, dup3, dup4, ite_true, exhs, exhn, exhz, exho, exA, ex1, ex2, ex3, ex4, ex5, beqI, bneI, decide_true, Bool.true_and, decide_eq_true_eq, decide_eq_false_iff_not, ne_eq, Decidable.not_not]
 have h : n < 4611686018427387904 := h
 refine exSp ⟨h, fun hb => ?_, fun hb => ?_⟩
 · have hb : loadsOk n s = false := by
     cases e : loadsOk n s with
     | false => rfl
     | true => exact absurd (if_pos e) hb
   have e1 : lotsN n s = 0 := by unfold lotsN; rw [if_neg (by rw [hb]; decide)]
   exact ⟨fun _ => ⟨fun _ => trivial, fun q => absurd (by rw [show lotsN _ _ = lotsN n s from rfl, e1]; rfl) q⟩, fun q => absurd (if_neg (by rw [show loadsOk _ _ = loadsOk n s from rfl, hb]; decide)) q⟩
 have hb : loadsOk n s = true := by
   cases e : loadsOk n s with
   | true => rfl
   | false => exact absurd hb (by rw [show loadsOk _ _ = loadsOk n s from rfl, e]; decide)
 obtain ⟨⟨n1, n2⟩, hs⟩ := loads_iff hb
 have eL : lotsN n s = (lotsL s n).length := if_pos hb
 have HA := lots_are hb
 have HL := lots_to (s := s) (i := n) fun k hk => (hs k hk).2.1
 have hl1 := HL.one
 unfold areLots at HA
 rw [Bool.and_eq_true, Bool.and_eq_true, allB_iff] at HA
 have HA := HA.2
 have HF : ∀ j, j < (lotsL s n).length → 0 ≤ (lotsL s n).getD j 0 ∧ (lotsL s n).getD j 0 + 1 ≤ toI n (lotsL s n).length (fun k => (lotsL s n).getD k 0) j ∧ toI n (lotsL s n).length (fun k => (lotsL s n).getD k 0) j ≤ n ∧ alikeB ((toI n (lotsL s n).length (fun k => (lotsL s n).getD k 0) j).toNat - ((lotsL s n).getD j 0).toNat) (cutS s ((lotsL s n).getD j 0).toNat) = true := fun j hj => by
   have q := HA j hj
   unfold lotOk at q
   rw [Bool.and_eq_true, Bm.within_iff] at q
   exact ⟨HL.nn j hj, q.1.1, q.1.2, q.2⟩
 dsimp only
 rw [eL]
 have m1 := Int.emod_nonneg k (show (((lotsL s n).length : Nat) : Int) ≠ 0 by omega)
 have m2 := Int.emod_lt_of_pos k (show (0 : Int) < (((lotsL s n).length : Nat) : Int) by omega)
 have eK : (k % (((lotsL s n).length : Nat) : Int)).toNat = kOf ⟨n, s, r, k⟩ := rfl
 have eK1 : (k % (((lotsL s n).length : Nat) : Int) + 1).toNat = kOf ⟨n, s, r, k⟩ + 1 := by rw [← eK]; omega
 have hK : kOf ⟨n, s, r, k⟩ < (lotsL s n).length := by rw [← eK]; omega
 have eKi : k % (((lotsL s n).length : Nat) : Int) = (kOf ⟨n, s, r, k⟩ : Nat) := by rw [← eK]; omega
 obtain ⟨f1, f2, f3, f4⟩ := HF _ hK
 have ha : a = ((lotsL s n).getD (kOf ⟨n, s, r, k⟩) 0).toNat := ha
 have hu : u = (toI n (lotsL s n).length (fun k => (lotsL s n).getD k 0) (kOf ⟨n, s, r, k⟩)).toNat := hu
 rw [← ha, ← hu] at f4
 have ea : (lotsL s n).getD (kOf ⟨n, s, r, k⟩) 0 = (a : Nat) := by omega
 have eu : toI n (lotsL s n).length (fun k => (lotsL s n).getD k 0) (kOf ⟨n, s, r, k⟩) = (u : Nat) := by omega
 have au : a + 1 ≤ u := by omega
 have un : u ≤ n := by omega
 rw [eK, eK1, eKi, ea]
 refine ⟨fun l0 => absurd l0 (by omega), fun l0 => ⟨fun c => absurd c (by omega), fun c => exAr ⟨h, by show (lotsL s n).length < _; have := (lots_len (s := s) (i := n)).2.1; omega, fun j hj => ?_, by omega, by have := (lots_len (s := s) (i := n)).2.1; omega, by omega, by omega, by omega, by have := (lots_len (s := s) (i := n)).2.1; omega, fun c1 => ⟨by omega, by have := (lots_len (s := s) (i := n)).2.1; omega, by omega, by omega, ?_⟩, fun c1 => ?_, fun q => absurd (if_pos hb) q, fun _ => ⟨fun q => ?_, fun _ => ⟨by omega, by omega, fun q => ?_, fun _ => ⟨by omega, by omega, fun q => ?_, fun _ => ⟨⟨0, by omega, rfl, rfl⟩, fun g hg => ⟨fun c2 => ⟨by omega, by omega, by omega, by omega, g + 1, by omega, by omega, by omega, rfl⟩, fun c2 => ⟨by omega, rfl, fun g1 hg1 => ⟨fun c3 => ⟨by omega, by omega, fun q => ?_, fun _ => ⟨by omega, by omega, by omega, by omega, g1 + 1, by omega, by omega, by omega, rfl, rfl, fun i hi => ?_⟩⟩, fun c3 => ?_⟩⟩⟩⟩⟩⟩⟩⟩⟩⟩
 · obtain ⟨g1, g2, g3, _⟩ := HF j hj
   exact ⟨g1, by show (lotsL s n).getD j 0 ≤ 1000; omega⟩
 · rw [← eu]; exact (if_pos (by omega)).symm
 · rw [← eu]; exact (if_neg (by omega)).symm
 · have e : (loadsOk n s && areLots n s (lotsL s n).length fun k => (lotsL s n).getD k 0) = true := by rw [hb, lots_are hb]; rfl
   rw [e] at q; exact absurd q (by decide)
 · have e : within (a : Int) 0 ((n : Int) - 1) = true := Bm.within_iff.2 ⟨by omega, by omega⟩
   rw [e] at q; exact absurd q (by decide)
 · have e : within (u : Int) ((a : Int) + 1) n = true := Bm.within_iff.2 ⟨by omega, by omega⟩
   rw [e] at q; exact absurd q (by decide)
 · obtain rfl : g = u - a := by omega
   have hh := tg_holds (s := s) (a := a) (u := u) (fun k hk => hs k (by omega)) f4 (i := a + g1) (by omega) (by omega)
   have e : within (grD s a (u - a)) (s (a + g1) 0) (s (a + g1) 1) = true := Bm.within_iff.2 ⟨hh.1, hh.2⟩
   rw [e] at q; exact absurd q (by decide)
 · show (if i < g1 then grBar (grD s a g) i 0 else if i - g1 = 0 then grD s a g else 0) = grBar (grD s a g) i 0 ∧ (if i < g1 then grBar (grD s a g) i 1 else if i - g1 = 0 then 0 else 0) = grBar (grD s a g) i 1 ∧ (if i < g1 then grBar (grD s a g) i 2 else if i - g1 = 0 then 0 else 0) = grBar (grD s a g) i 2 ∧ (if i < g1 then grBar (grD s a g) i 3 else if i - g1 = 0 then 0 else 0) = grBar (grD s a g) i 3
   by_cases e : i < g1
   · rw [if_pos e, if_pos e, if_pos e, if_pos e]; exact ⟨rfl, rfl, rfl, rfl⟩
   · rw [if_neg e, if_neg e, if_neg e, if_neg e, if_pos (show i - g1 = 0 by omega), if_pos (show i - g1 = 0 by omega)]; exact ⟨rfl, rfl, rfl, rfl⟩
 obtain rfl : g = u - a := by omega
 obtain rfl : g1 = u - a := by omega
 have G0 : 0 ≤ grD s a (u - a) := grD_nn
 have G1 : grD s a (u - a) ≤ 1000 := grD_le (by decide) fun i hi => by have := hs (a + i) (by omega); omega
 obtain ⟨gg1, gg2⟩ := tg_grade G0 G1
 generalize hG : grD s a (u - a) = G at *
 have N1 : 1 ≤ u - a := by omega
 have N2 : u - a ≤ 40 := by omega
 generalize u - a = N at *
 refine ⟨Int.le_refl 0, by omega, grMk G, fun i hi => ?_, grBar G 0, rfl, rfl, rfl, rfl, by decide, fun q => absurd gg2 q, fun _ => ⟨fun q => absurd gg1 q, fun _ => ⟨⟨0, Nat.zero_le _, fun h => absurd h (Nat.lt_irrefl 0), rfl, rfl⟩, fun q ⟨hq, hr⟩ => ⟨fun c4 => ⟨r, rfl, rfl, rfl, rfl, rfl, rfl, fun e => ⟨fun _ => trivial, fun e2 => absurd ((kE_ok N1 N2 (by omega)).2 e) e2⟩, fun e => ⟨fun e2 => ⟨by omega, by omega, q + 1, by omega, fun _ => (kE_ok N1 N2 (by omega)).1 e, by omega, by omega, ?_⟩, fun e2 => ⟨by omega, by omega, q + 1, by omega, fun _ => (kE_ok N1 N2 (by omega)).1 e, by omega, by omega, ?_⟩⟩⟩, fun c4 => ?_⟩⟩⟩⟩
 · obtain rfl : i = 0 := by omega
   exact ⟨rfl, rfl, rfl, rfl, rfl, rfl, rfl, rfl⟩
 · show (anyK N r q || keepsB N r N q) = true
   rw [e2]; rfl
 · show keepsB N r N q = (anyK N r q || keepsB N r N q)
   rw [e2]; rfl
 · obtain rfl : q = N + 1 := by omega
   obtain ⟨_, hrule⟩ := ruled_inv (hr (by omega))
   obtain ⟨p1, p2⟩ := tg_pro G0 G1 N1 N2 hrule
   refine ⟨⟨1, grMk G, N, r, N, grBar G⟩, rfl, fun i hi => ?_, rfl, rfl, rfl, rfl, rfl, rfl, rfl, rfl, fun _ _ => ⟨rfl, rfl, rfl, rfl⟩, (show 1 < 4611686018427387904 by decide), by show N < _; omega, fun _ => ⟨fun _ => ⟨fun _ => trivial, fun e => absurd p1 e⟩, fun e => absurd p2 e⟩, fun e => ?_⟩
   · obtain rfl : i = 0 := by omega
     exact ⟨rfl, rfl, rfl, rfl, rfl, rfl, rfl, rfl⟩
   · rw [tg_any N1 N2 hrule] at e; cases e
theorem q3 (x : TgIn) (h : x.n < 4611686018427387904) : CallQ Try.prog E0 3 (sTg.arg x) (sTg.res x) := q3g x _ _ h rfl rfl
end Go.Proofs.Ytpigkgoooekcgaa
namespace Go.Sx
def shapeB (E : Env) : Nat → Nat → Bool
 | 0, _ => false
 | n + 1, t => match E.ty t with
   | some ti => match ti.kind with
     | .bool => true
     | .int _ => true
     | .str => true
     | .slice e => match E.ty e with
       | some te => Nat.ble 1 te.size && shapeB E n e
       | none => false
     | .struct fs => fields E (shapeB E n) 0 ti.size fs
     | .array m e => match E.ty e with
       | some te => Nat.beq (m * te.size) ti.size && Nat.ble 1 te.size && shapeB E n e
       | none => false
     | _ => false
   | none => false
where
 fields (E : Env) (p : Nat → Bool) (o size : Nat) : List (Nat × TypeId) → Bool
   | [] => Nat.beq o size
   | (fo, ft) :: fs => match E.ty ft with
     | some tf => Nat.beq fo o && p ft && fields E p (o + tf.size) size fs
     | none => false
def ShpK (K : Nat) (E : Env) : Nat → Nat → (Nat → CV) → Prop
 | 0, _, _ => False
 | n + 1, t, get => match E.ty t with
   | some ti => match ti.kind with
     | .bool => ∃ b, get 0 = .bool b
     | .int k => ∃ a, get 0 = .int k a ∧ inRange k a
     | .str => ∃ s : ByteArray, get 0 = .str s ∧ s.size ≤ K
     | .slice e => match E.ty e with
       | some te => ∃ len g, get 0 = .vs te.size len g ∧ len * te.bytes ≤ K ∧ ∀ i, i < len → ShpK K E n e (g i)
       | none => False
     | .struct fs => AllF (fun x => ShpK K E n x.2 (fun j => get (x.1 + j))) fs
     | .array m e => match E.ty e with
       | some te => ∀ i, i < m → ShpK K E n e (fun j => get (i * te.size + j))
       | none => False
     | _ => False
   | none => False
where
 AllF (p : Nat × TypeId → Prop) : List (Nat × TypeId) → Prop
   | [] => True
   | x :: l => p x ∧ AllF p l
abbrev Shp (E : Env) : Nat → Nat → (Nat → CV) → Prop := ShpK reachBytes E
theorem ShpK.AllF_congr {p q : Nat × TypeId → Prop} : ∀ {l : List (Nat × TypeId)}, (∀ x ∈ l, p x → q x) → ShpK.AllF p l → ShpK.AllF q l
 | [], _, _ => trivial
 | x :: _, h, h' => ⟨h x (by simp) h'.1, ShpK.AllF_congr (fun y hy => h y (by simp [hy])) h'.2⟩
section
variable {P : Program} {E : Env} {K : Nat}
theorem fields_mem {p : Nat → Bool} : ∀ {fs : List (Nat × TypeId)} {o size : Nat}, shapeB.fields E p o size fs = true → o ≤ size ∧ ∀ x ∈ fs, ∃ tf, E.ty x.2 = some tf ∧ p x.2 = true ∧ o ≤ x.1 ∧ x.1 + tf.size ≤ size
 | [], o, size, h => by
   obtain rfl := Nat.eq_of_beq_eq_true h
   exact ⟨Nat.le_refl _, fun x hx => by simp at hx⟩
 | (fo, ft) :: fs, o, size, h => by
   simp only [shapeB.fields] at h
   split at h
   · rename_i tf htf
     simp only [Bool.and_eq_true] at h
     obtain ⟨⟨h1, h2⟩, h3⟩ := h
     obtain rfl := Nat.eq_of_beq_eq_true h1
     obtain ⟨h4, h5⟩ := fields_mem h3
     refine ⟨by omega, fun x hx => ?_⟩
     rcases List.mem_cons.1 hx with rfl | hx
     · exact ⟨tf, htf, h2, Nat.le_refl _, h4⟩
     · obtain ⟨tg, a1, a2, a3, a4⟩ := h5 x hx
       exact ⟨tg, a1, a2, by omega, a4⟩
   · cases h
theorem ShpK.congr (hT : TabOk P E) : ∀ {n t : Nat} {ti : TI} {g g' : Nat → CV}, E.ty t = some ti → shapeB E n t = true → (∀ j, j < ti.size → g j = g' j) → ShpK K E n t g → ShpK K E n t g'
 | 0, _, _, _, _, _, h, _, _ => by simp [shapeB] at h
 | n + 1, t, ti, g, g', ht, hs, he, h => by
   obtain ⟨hF, _⟩ := hT t ti ht
   obtain ⟨i, d, z, hF⟩ := tabTI_spec hF
   simp only [shapeB, ht] at hs
   simp only [ShpK, ht] at h ⊢
   have one : ti.kind.isAgg = false → g 0 = g' 0 := fun hk => he 0 (by have := hF.one hk; omega)
   cases hk : ti.kind with
   | bool => rw [hk] at h; simp only at h ⊢; rw [← one (by rw [hk]; rfl)]; exact h
   | int k => rw [hk] at h; simp only at h ⊢; rw [← one (by rw [hk]; rfl)]; exact h
   | str => rw [hk] at h; simp only at h ⊢; rw [← one (by rw [hk]; rfl)]; exact h
   | slice e => rw [hk] at h; simp only at h ⊢; rw [← one (by rw [hk]; rfl)]; exact h
   | struct fs =>
     rw [hk] at h hs
     simp only at h hs ⊢
     refine ShpK.AllF_congr (fun x hx hp => ?_) h
     obtain ⟨tf, h1, h2, h3, h4⟩ := (fields_mem hs).2 x hx
     exact ShpK.congr hT h1 h2 (fun j hj => he _ (by omega)) hp
   | array m e =>
     rw [hk] at h hs
     simp only at h hs ⊢
     cases hte : E.ty e with
     | none => rw [hte] at h; exact h.elim
     | some te =>
       rw [hte] at h hs
       simp only [Bool.and_eq_true] at h hs ⊢
       have hsz := Nat.eq_of_beq_eq_true hs.1.1
       intro i hi
       refine ShpK.congr hT hte hs.2 (fun j hj => he _ ?_) (h i hi)
       rw [← hsz]
       have : (i + 1) * te.size ≤ m * te.size := Nat.mul_le_mul_right _ hi
       rw [Nat.add_mul, Nat.one_mul] at this
       omega
   | ptr => rw [hk] at hs; cases hs
   | map k v => rw [hk] at hs; cases hs
   | func => rw [hk] at hs; cases hs
   | other => rw [hk] at hs; cases hs
variable {H : Type} {enc : TypeId × Value → H} {w : World} {held : Bool}
theorem add_none (b o i : Nat) : (⟨b, o, none⟩ : Addr).add i = ⟨b, o + i, none⟩ := by
 unfold Addr.add
 split
 · rename_i h; subst h; rfl
 · rfl
theorem weightsAll_mem {e : TypeId} : ∀ {l : List (DataW H)} {d : DataW H}, d ∈ l → ∀ x ∈ d.weights P e, x ∈ DataW.weightsAll P e l
 | [], _, h, _, _ => by cases h
 | y :: l, d, h, x, hx => by
   simp only [DataW.weightsAll, List.mem_append]
   rcases List.mem_cons.1 h with rfl | h
   · exact .inl hx
   · exact .inr (weightsAll_mem h x hx)
theorem fields_shape {n : Nat} {cs : List Value} {w : World} (ih : ∀ {t : Nat} {ti : TI} {fuel : Nat} {cs : List Value} {x : DataW H × List MemPlace}, E.ty t = some ti → shapeB E n t = true →
     DataW.trod enc P w 0 (fun _ => true) held fuel t cs = some x → (∀ y ∈ x.1.weights P t, y ≤ K) → cs.length = ti.size ∧ ∃ get, (∀ j u, cs[j]? = some u → RP (fun b => b < w.heap.size) w (get j) u) ∧ ShpK K E n t get)
   {fuel : Nat} (hcell : ∀ t tf, E.ty t = some tf → P.cellsOf t = tf.size) : ∀ {fs : List Field} {xs : List (DataW H × List MemPlace)} {o size : Nat}, (hT : TabOk P E) → shapeB.fields E (shapeB E n) o size (fs.map fun f => (f.offset, f.type)) = true →
     xs.length = fs.length → (∀ (i : Nat) (f : Field), fs[i]? = some f → DataW.trod enc P w 0 (fun _ => true) held fuel f.type ((cs.drop f.offset).take (P.cellsOf f.type)) = xs[i]?) →
     (∀ y ∈ DataW.weightsEach P (fs.map (·.type)) (xs.map (·.1)), y ≤ K) → cs.length = size →
     ∃ get : Nat → CV, (∀ j u, o ≤ j → cs[j]? = some u → RP (fun b => b < w.heap.size) w (get j) u) ∧ ShpK.AllF (fun x => ShpK K E n x.2 (fun j => get (x.1 + j))) (fs.map fun f => (f.offset, f.type))
 | [], xs, o, size, hT, hf, hl, ht, hw, hcs => by
   obtain rfl := Nat.eq_of_beq_eq_true hf
   refine ⟨fun _ => .any, fun j u hj hu => ?_, trivial⟩
   have := (List.getElem?_eq_some_iff.1 hu).1
   omega
 | f :: fs, [], o, size, hT, hf, hl, ht, hw, hcs => by simp at hl
 | f :: fs, x :: xs, o, size, hT, hf, hl, ht, hw, hcs => by
   simp only [List.map_cons, shapeB.fields] at hf
   split at hf
   · rename_i tf htf
     simp only [Bool.and_eq_true] at hf
     obtain ⟨⟨h1, h2⟩, h3⟩ := hf
     have h1 := Nat.eq_of_beq_eq_true h1
     subst h1
     simp only [List.map_cons, DataW.weightsEach, List.mem_append] at hw
     have h0 := ht 0 f rfl
     obtain ⟨hlen, gf, hg1, hg2⟩ := ih htf h2 (h0.trans rfl) (fun y hy => hw y (.inl hy))
     obtain ⟨gr, hr1, hr2⟩ := fields_shape ih hcell (fs := fs) (xs := xs) (o := f.offset + tf.size) hT h3 (by simpa using hl) (fun i g hi => by simpa using ht (i + 1) g (by simpa using hi)) (fun y hy => hw y (.inr hy)) hcs
     refine ⟨fun j => if j < f.offset + tf.size then gf (j - f.offset) else gr j, fun j u hj hu => ?_, ?_, ?_⟩
     · by_cases e : j < f.offset + tf.size
       · simp only [if_pos e]
         refine hg1 _ u ?_
         rw [hcell _ _ htf, List.getElem?_take_of_lt (by omega), List.getElem?_drop]
         rw [show f.offset + (j - f.offset) = j by omega]; exact hu
       · simp only [if_neg e]
         exact hr1 j u (by omega) hu
     · refine ShpK.congr hT htf h2 (fun j hj => ?_) hg2
       show gf j = if f.offset + j < f.offset + tf.size then gf (f.offset + j - f.offset) else gr (f.offset + j)
       rw [if_pos (by omega)]; congr 1; omega
     · refine ShpK.AllF_congr (fun y hy hp => ?_) hr2
       obtain ⟨ty, a1, a2, a3, a4⟩ := (fields_mem h3).2 y hy
       refine ShpK.congr hT a1 a2 (fun j hj => ?_) hp
       show gr (y.1 + j) = if y.1 + j < f.offset + tf.size then gf (y.1 + j - f.offset) else gr (y.1 + j)
       rw [if_neg (by omega)]
   · cases hf
theorem TabOk.cells (hT : TabOk P E) {t : Nat} {ti : TI} (ht : E.ty t = some ti) : P.cellsOf t = ti.size ∧ P.bytesOf t = ti.bytes := by
 obtain ⟨i, d, z, hF⟩ := tabTI_spec (hT t ti ht).1
 simp [Program.cellsOf, Program.bytesOf, hF.info, hF.size, hF.bytes]
theorem trod_shape (hT : TabOk P E) : ∀ {n t : Nat} {ti : TI} {fuel : Nat} {cs : List Value} {x : DataW H × List MemPlace}, E.ty t = some ti → shapeB E n t = true →
   DataW.trod enc P w 0 (fun _ => true) held fuel t cs = some x → (∀ y ∈ x.1.weights P t, y ≤ K) → cs.length = ti.size ∧ ∃ get, (∀ j u, cs[j]? = some u → RP (fun b => b < w.heap.size) w (get j) u) ∧ ShpK K E n t get
 | 0, _, _, _, _, _, _, h, _, _ => by simp [shapeB] at h
 | n + 1, t, ti, fuel, cs, x, ht, hs, h, hw => by
   obtain ⟨hF, hne⟩ := hT t ti ht
   obtain ⟨i, d, z, hF⟩ := tabTI_spec hF
   have hu := hF.und
   simp only [shapeB, ht] at hs
   have one : ∀ (v : Value) (y : CV), ti.kind.isAgg = false → RP (fun b => b < w.heap.size) w y v → [v].length = ti.size ∧ ∀ (j : Nat) (u : Value), [v][j]? = some u → RP (fun b => b < w.heap.size) w ((fun _ => y) j) u := fun v y hk hr => by
     refine ⟨by have := hF.one hk; simp [this], fun j u hj => ?_⟩
     cases j with
     | zero => simp at hj; subst hj; exact hr
     | succ j => simp at hj
   cases hk : ti.kind with
   | bool =>
     rw [hF.bool hk] at hu
     obtain ⟨b, rfl, rfl⟩ := DataW.trod_bool hu h
     obtain ⟨a1, a2⟩ := one (.bool b) (.bool b) (by rw [hk]; rfl) rfl
     exact ⟨a1, _, a2, by simp only [ShpK, ht, hk]; exact ⟨b, rfl⟩⟩
   | int k =>
     rw [hF.int hk] at hu
     obtain ⟨a, rfl, rfl, hwf⟩ := DataW.trod_int hu h
     obtain ⟨a1, a2⟩ := one (.int k a) (.int k a) (by rw [hk]; rfl) rfl
     refine ⟨a1, _, a2, ?_⟩
     simp only [ShpK, ht, hk]
     simp only [Lit.wf, Bool.and_eq_true, decide_eq_true_eq] at hwf
     exact ⟨a, rfl, hwf⟩
   | str =>
     rw [hF.str hk] at hu
     obtain ⟨s, rfl, rfl, hm⟩ := DataW.trod_string hu h
     obtain ⟨a1, a2⟩ := one (.string s) (.str s) (by rw [hk]; rfl) rfl
     refine ⟨a1, _, a2, ?_⟩
     simp only [ShpK, ht, hk]
     have := hw s.data.toList.length (by simp [DataW.weights])
     exact ⟨s, rfl, by simpa using this⟩
   | slice e =>
     rw [hk] at hs
     rw [hF.slice hk] at hu
     simp only at hs
     cases hte : E.ty e with
     | none => rw [hte] at hs; cases hs
     | some te =>
       rw [hte] at hs
       simp only [Bool.and_eq_true] at hs
       have hpos : 1 ≤ te.size := Nat.le_of_ble_eq_true hs.1
       obtain ⟨hc, hb⟩ := hT.cells hte
       rcases DataW.trod_slice hu h with ⟨rfl, rfl⟩ | ⟨a, len, cap, elems, rest, m, _, rfl, rfl, _, hlc, _, hlen, hel, _, _⟩
       · obtain ⟨a1, a2⟩ := one (.slice none 0 0) (.vs te.size 0 (fun _ _ => .any)) (by rw [hk]; rfl) ⟨none, 0, rfl, Nat.le_refl _, fun hh => absurd hh (Nat.lt_irrefl 0)⟩
         refine ⟨a1, _, a2, ?_⟩
         simp only [ShpK, ht, hk, hte]
         exact ⟨0, _, rfl, by simp, fun i hi => absurd hi (Nat.not_lt_zero i)⟩
       · simp only [DataW.weights, hu, List.mem_cons, List.mem_append] at hw
         have hwlen : len * te.bytes ≤ K := by
           refine Nat.le_trans (Nat.mul_le_mul_right _ ?_) (by have := hw _ (.inl rfl); rw [hb] at this; exact this)
           simp [hlen]
         have hE : ∀ i, i < len → ∃ g : Nat → CV, (∃ ecs : List Value, ecs.length = te.size ∧ (∀ j, j < te.size → w.cell? ((a.add (i * te.size)).add j) = ecs[j]?) ∧ ∀ j u, ecs[j]? = some u → RP (fun b => b < w.heap.size) w (g j) u) ∧ ShpK K E n e g := fun i hi => by
           have h1 := hel i hi
           have hi' : i < elems.length := by omega
           rw [List.getElem?_eq_getElem hi'] at h1
           simp only [Option.bind_eq_some_iff] at h1
           obtain ⟨ecs, h2, h3⟩ := h1
           obtain ⟨h4, h5, h6⟩ := World.cells?_some h2
           obtain ⟨h7, g, h8, h9⟩ := trod_shape hT hte hs.2 h3 (fun y hy => hw y (.inr (.inl (weightsAll_mem (List.mem_map.2 ⟨elems[i], List.getElem_mem hi', rfl⟩) y hy))))
           exact ⟨g, ⟨ecs, h7, fun j hj => by rw [← hc]; exact h6 j (by rw [hc]; exact hj), h8⟩, h9⟩
         have hG : ∃ g : Nat → Nat → CV, ∀ i, i < len → (∃ ecs : List Value, ecs.length = te.size ∧ (∀ j, j < te.size → w.cell? ((a.add (i * te.size)).add j) = ecs[j]?) ∧ ∀ j u, ecs[j]? = some u → RP (fun b => b < w.heap.size) w (g i j) u) ∧ ShpK K E n e (g i) := by
           refine ⟨fun i => if hi : i < len then Classical.choose (hE i hi) else fun _ => .any, fun i hi => ?_⟩
           simp only [dif_pos hi]
           exact Classical.choose_spec (hE i hi)
         obtain ⟨g, hg⟩ := hG
         have hr : RP (fun b => b < w.heap.size) w (.vs te.size len g) (.slice (some a) len cap) := by
           refine ⟨some a, cap, rfl, hlc, fun hl0 => ?_⟩
           obtain ⟨⟨ecs, e1, e2, _⟩, _⟩ := hg 0 hl0
           have e3 := e2 0 (by omega)
           have e4 : 0 < ecs.length := by omega
           rw [List.getElem?_eq_getElem e4] at e3
           have hsp : a.spot = none := by simpa [Addr.add] using World.cell?_spot e3
           obtain ⟨b, off, sp⟩ := a
           simp only at hsp; subst hsp
           have hblk : b < w.heap.size := by
             rw [add_none, add_none] at e3
             simp only [World.cell?] at e3
             cases hh : w.heap[b]? with
             | none => rw [hh] at e3; cases e3
             | some o => exact (Array.getElem?_eq_some_iff.1 hh).1
           refine ⟨b, off, rfl, hblk, fun i hi j hj => ?_⟩
           obtain ⟨⟨ecs, e1, e2, e5⟩, _⟩ := hg i hi
           have e6 := e2 j hj
           have e7 : j < ecs.length := by omega
           rw [List.getElem?_eq_getElem e7] at e6
           refine ⟨ecs[j], ?_, e5 j _ (List.getElem?_eq_getElem e7)⟩
           rw [add_none, add_none, Nat.add_assoc] at e6
           exact e6
         obtain ⟨a1, a2⟩ := one _ _ (by rw [hk]; rfl) hr
         refine ⟨a1, _, a2, ?_⟩
         simp only [ShpK, ht, hk, hte]
         exact ⟨len, g, rfl, hwlen, fun i hi => (hg i hi).2⟩
   | struct l =>
     rw [hk] at hs
     simp only at hs
     obtain ⟨fs, rfl, rfl, _⟩ := hF.struct hk
     obtain ⟨xs, m, _, rfl, hcl, hxl, hx⟩ := DataW.trod_struct hu h
     rw [(hT.cells ht).1] at hcl
     simp only [DataW.weights, hu] at hw
     obtain ⟨get, g1, g2⟩ := fields_shape (cs := cs) (fun a b c d => trod_shape hT a b c d) (fun t tf h => (hT.cells h).1) (fs := fs.toList) (xs := xs) hT hs (by simpa using hxl) (fun i f hi => hx i f (by simpa using hi)) hw hcl
     refine ⟨hcl, get, fun j u hu => g1 j u (Nat.zero_le _) hu, ?_⟩
     simp only [ShpK, ht, hk]
     exact g2
   | array m e =>
     rw [hk] at hs
     simp only at hs
     obtain ⟨rfl, _⟩ := hF.array hk
     cases hte : E.ty e with
     | none => rw [hte] at hs; cases hs
     | some te =>
       rw [hte] at hs
       simp only [Bool.and_eq_true] at hs
       have hsz := Nat.eq_of_beq_eq_true hs.1.1
       have hpos : 1 ≤ te.size := Nat.le_of_ble_eq_true hs.1.2
       obtain ⟨hc, _⟩ := hT.cells hte
       obtain ⟨xs, k, _, rfl, hcl, hxl, hx⟩ := DataW.trod_array hu h
       rw [(hT.cells ht).1] at hcl
       simp only [DataW.weights, hu] at hw
       have hE : ∀ i, i < m → ∃ g : Nat → CV, (∀ j u, j < te.size → cs[i * te.size + j]? = some u → RP (fun b => b < w.heap.size) w (g j) u) ∧ ShpK K E n e g := fun i hi => by
         have h1 := hx i hi
         have hi' : i < xs.length := by omega
         rw [List.getElem?_eq_getElem hi'] at h1
         obtain ⟨h7, g, h8, h9⟩ := trod_shape hT hte hs.2 h1 (fun y hy => hw y (weightsAll_mem (List.mem_map.2 ⟨xs[i], List.getElem_mem hi', rfl⟩) y hy))
         refine ⟨g, fun j u hj hu => h8 j u ?_, h9⟩
         rw [hc, List.getElem?_take_of_lt hj, List.getElem?_drop]; exact hu
       have hG : ∃ g : Nat → Nat → CV, ∀ i, i < m → (∀ j u, j < te.size → cs[i * te.size + j]? = some u → RP (fun b => b < w.heap.size) w (g i j) u) ∧ ShpK K E n e (g i) := by
         refine ⟨fun i => if hi : i < m then Classical.choose (hE i hi) else fun _ => .any, fun i hi => ?_⟩
         simp only [dif_pos hi]
         exact Classical.choose_spec (hE i hi)
       obtain ⟨g, hg⟩ := hG
       refine ⟨hcl, fun j => g (j / te.size) (j % te.size), fun j u hj => ?_, ?_⟩
       · have hjl := (List.getElem?_eq_some_iff.1 hj).1
         rw [hcl, ← hsz] at hjl
         have hq : j / te.size < m := (Nat.div_lt_iff_lt_mul (by omega)).2 hjl
         refine (hg _ hq).1 _ u (Nat.mod_lt _ (by omega)) ?_
         rw [Nat.mul_comm, Nat.div_add_mod]; exact hj
       · simp only [ShpK, ht, hk, hte]
         intro i hi
         refine ShpK.congr hT hte hs.2 (fun j hj => ?_) (hg i hi).2
         have e1 : (i * te.size + j) / te.size = i := by
           rw [Nat.mul_comm, Nat.mul_add_div (by omega), Nat.div_eq_of_lt hj, Nat.add_zero]
         have e2 : (i * te.size + j) % te.size = j := by
           rw [Nat.mul_comm, Nat.mul_add_mod, Nat.mod_eq_of_lt hj]
         rw [e1, e2]
   | ptr => rw [hk] at hs; cases hs
   | map k v => rw [hk] at hs; cases hs
   | func => rw [hk] at hs; cases hs
   | other => exact absurd hk hne
open Go.RowKit Go.ChangeShapes Go.WideShapes
theorem Evo.below {Z Z' : Nat → Prop} {w w' : World} (h : Evo (fun _ => False) Z w Z' w') : Go.RowKit.Below w.heap.size w w' :=
 ⟨h.os, h.tape, h.output, h.size, fun b hb => h.same b hb (fun hh => hh)⟩
def argTys (P : Program) (ts : List Nat) : Bool := ts.all fun t => P.readableRec t && decide (t < P.types.size)
theorem below_all (hl : laidOutB P = true) {W W' : World} (hb : Go.RowKit.Below W.heap.size W W') : ∀ {ts : List Nat} {vs : List Value} {ds : List (DataW H)} {ps : List MemPlace}, argTys P ts = true →
   DataW.TrodAll enc P W 0 (fun _ => true) true ts vs ds ps → (∀ x ∈ ps, x.block < W.heap.size) → DataW.TrodAll enc P W' 0 (fun b => decide (b < W.heap.size)) true ts vs ds ps
 | [], [], [], _, _, h, _ => h
 | [], [], _ :: _, _, _, h, _ => h.elim
 | [], _ :: _, _, _, _, h, _ => h.elim
 | _ :: _, [], _, _, _, h, _ => h.elim
 | _ :: _, _ :: _, [], _, _, h, _ => h.elim
 | t :: ts, v :: vs, d :: ds, ps, ha, h, hlt => by
   obtain ⟨p, q, h1, h2, rfl⟩ := h
   simp only [argTys, List.all_cons, Bool.and_eq_true, decide_eq_true_eq] at ha
   exact ⟨p, q, Below.trod hl ha.1.1 ha.1.2 h1 hb (fun x hx => hlt x (by simp [hx])), below_all hl hb (by simpa [argTys] using ha.2) h2 (fun x hx => hlt x (by simp [hx])), rfl⟩
theorem post_true {f : Func} {s : ChangeSpec} (hl : laidOutB P = true) {b : Nat} (hres : f.resultTypes = #[b]) (hb : P.underlying b = some .bool) (hargs : argTys P f.params.toList = true) (hvars : s.vars = [])
   {W W' : World} {args : Array Value} {ds gs : List (DataW H)} {before : List MemPlace} (hW : DataW.Whole enc P f.params.toList s.vars false W args.toList ds gs before)
   (hs : s.fn H (ds ++ gs) = { results := [.lit (.bool true)], args := ds }) (ev : Go.RowKit.Below W.heap.size W W') : s.post enc P f false true false false W args (.bool true) W' := by
 have hlt := hW.lt
 have hW' := hW
 obtain ⟨p, q, hA, hV, rfl, hfz, hnd⟩ := hW
 have hV' : DataW.TrodVars enc P W (fun _ => true) [] gs q := by rw [hvars] at hV; exact hV
 obtain ⟨rfl, rfl⟩ := trodVars_none hV'
 refine ⟨ds, [], p ++ [], [], p, [], hW', ?_, ?_, ?_, ev.frame _, fun h => by cases h⟩
 · rw [hs, hres]; exact trodAll_mk1 (shut_bool hb true)
 · rw [hs]; exact below_all hl ev hargs hA (fun x hx => hlt x (by simp [hx]))
 · rw [hs, hvars]; rfl
theorem okWide_one {r : Reach} {base : Nat} {t : TypeId} {v : Value} (h : Value.okWide P w r base t v) (hd : ∀ d, P.underlying t = some d → (∀ fs, d ≠ .struct fs) ∧ ∀ n e, d ≠ .array n e) : v.cells = #[v] := by
 cases v with
 | agg cs =>
   exfalso
   unfold Value.okWide at h
   split at h
   · rename_i fs hu; exact (hd _ hu).1 _ rfl
   · rename_i n e hu; exact (hd _ hu).2 _ _ rfl
   · unfold Cell.okWide at h
     split at h
     all_goals first
       | (rename_i h1; cases h1; done)
       | (rename_i h1 _; cases h1; done)
       | skip
     all_goals (unfold Cell.ok at h; split at h <;> first | exact h.elim | (rename_i h1; cases h1))
 | _ => rfl
theorem okWide_agg {r : Reach} {base : Nat} {t : TypeId} {v : Value} (h : Value.okWide P w r base t v) {d : TypeDesc} (hu : P.underlying t = some d) (hd : (∃ fs, d = .struct fs) ∨ ∃ n e, d = .array n e) : ∃ cs, v = .agg cs := by
 unfold Value.okWide at h
 rcases hd with ⟨fs, rfl⟩ | ⟨n, e, rfl⟩
 · rw [hu] at h
   obtain ⟨cs, rfl, _⟩ := h; exact ⟨cs, rfl⟩
 · rw [hu] at h
   obtain ⟨cs, rfl, _⟩ := h; exact ⟨cs, rfl⟩
def AllShpK (K : Nat) (E : Env) (n : Nat) : List Nat → List TV → Prop
 | [], [] => True
 | t :: ts, v :: vs => (∃ ti get, E.ty t = some ti ∧ v = mkTV ti get ∧ ShpK K E n t get) ∧ AllShpK K E n ts vs
 | _, _ => False
abbrev AllShp (E : Env) (n : Nat) : List Nat → List TV → Prop := AllShpK reachBytes E n
theorem AllShpK.cons {E : Env} {n t : Nat} {ts : List Nat} {tvs : List TV} {ti : TI} (h : AllShpK K E n (t :: ts) tvs) (ht : E.ty t = some ti) : ∃ get rest, tvs = mkTV ti get :: rest ∧ ShpK K E n t get ∧ AllShpK K E n ts rest := by
 cases tvs with
 | nil => exact h.elim
 | cons v vs =>
   obtain ⟨⟨tj, get, h1, h2, h3⟩, h4⟩ := h
   obtain rfl := Option.some.inj (h1.symm.trans ht)
   exact ⟨get, vs, by rw [h2], h3, h4⟩
theorem AllShpK.nil {E : Env} {n : Nat} {tvs : List TV} (h : AllShpK K E n [] tvs) : tvs = [] := by
 cases tvs with
 | nil => rfl
 | cons v vs => exact h.elim
def allShB (E : Env) (n : Nat) (ts : List Nat) : Bool := ts.all fun t => (E.ty t).isSome && shapeB E n t
theorem shape_val (hT : TabOk P E) {n t : Nat} {ti : TI} {r : Reach} {base : Nat} {v : Value} {d : DataW H} {ps : List MemPlace} (ht : E.ty t = some ti) (hs : shapeB E n t = true) (hval : Value.okWide P w r base t v)
   (hd : DataW.Trod enc P w 0 (fun _ => true) true t v d ps) (hw : ∀ y ∈ d.weights P t, y ≤ K) : ∃ get, RT (fun _ => .no) (fun b => b < w.heap.size) w (mkTV ti get) v ∧ ShpK K E n t get := by
 obtain ⟨fuel, hf⟩ := hd
 obtain ⟨hlen, get, h1, h2⟩ := trod_shape hT ht hs hf hw
 refine ⟨get, ?_, h2⟩
 obtain ⟨i, ds, z, hF⟩ := tabTI_spec (hT t ti ht).1
 have hkind := hF.kind
 unfold mkTV TI.isAgg
 have hagg : (∃ fs, ds = .struct fs) ∨ (∃ n e, ds = .array n e) ∨ ((∀ fs, ds ≠ .struct fs) ∧ ∀ n e, ds ≠ .array n e) := by
   cases ds with
   | struct fs => exact .inl ⟨_, rfl⟩
   | array n e => exact .inr (.inl ⟨_, _, rfl⟩)
   | _ => exact .inr (.inr ⟨fun _ h => by (cases h), fun _ _ h => by (cases h)⟩)
 cases hk : ti.kind.isAgg with
 | true =>
   simp only [if_true]
   obtain ⟨cs, rfl⟩ := okWide_agg hval hF.und (by
     rcases hagg with h | h | h
     · exact .inl h
     · exact .inr h
     · exfalso
       cases e : ti.kind with
       | struct l => obtain ⟨fs, e1, _⟩ := hF.struct e; exact h.1 _ e1
       | array m e' => exact h.2 _ _ (hF.array e).1
       | _ => rw [e] at hk; cases hk)
   refine ⟨cs, rfl, by simpa [Value.cells] using hlen, fun j hj => ?_⟩
   have hj' : j < cs.size := by have : cs.size = ti.size := by simpa [Value.cells] using hlen
                                omega
   exact ⟨cs[j], by simp [hj'], RC.of_RP (h1 j _ (by simp [Value.cells, hj']))⟩
 | false =>
   simp only [Bool.false_eq_true, if_false]
   have hc := okWide_one hval (fun d' hd' => by
     obtain rfl : d' = ds := Option.some.inj (hd'.symm.trans hF.und)
     rcases hagg with ⟨fs, rfl⟩ | ⟨m, e, rfl⟩ | h
     · exfalso
       simp only [kindOf] at hkind
       split at hkind
       · injection hkind with hkind; rw [← hkind] at hk; cases hk
       · injection hkind with hkind; exact (hT t ti ht).2 hkind.symm
     · exfalso
       simp only [kindOf] at hkind
       split at hkind
       · injection hkind with hkind; rw [← hkind] at hk; cases hk
       · injection hkind with hkind; exact (hT t ti ht).2 hkind.symm
     · exact h)
   exact RC.of_RP (h1 0 v (by rw [hc]; rfl))
theorem shape_all (hT : TabOk P E) {n : Nat} {r : Reach} {base : Nat} : ∀ {ts : List Nat} {vs : List Value} {ds : List (DataW H)} {ps : List MemPlace}, allShB E n ts = true → (∀ (j : Nat) t v, ts[j]? = some t → vs[j]? = some v → Value.okWide P w r base t v) →
   DataW.TrodAll enc P w 0 (fun _ => true) true ts vs ds ps → (∀ y ∈ DataW.weightsEach P ts ds, y ≤ K) → ∃ tvs, AllShpK K E n ts tvs ∧ RL (fun _ => .no) (fun b => b < w.heap.size) w tvs vs ∧ ds.length = ts.length
 | [], [], [], _, _, _, _, _ => ⟨[], trivial, trivial, rfl⟩
 | [], [], _ :: _, _, _, _, h, _ => h.elim
 | [], _ :: _, _, _, _, _, h, _ => h.elim
 | _ :: _, [], _, _, _, _, h, _ => h.elim
 | _ :: _, _ :: _, [], _, _, _, h, _ => h.elim
 | t :: ts, v :: vs, d :: ds, ps, ha, hv, h, hw => by
   obtain ⟨p, q, h1, h2, rfl⟩ := h
   simp only [allShB, List.all_cons, Bool.and_eq_true] at ha
   obtain ⟨ti, hti⟩ := Option.isSome_iff_exists.1 ha.1.1
   simp only [DataW.weightsEach, List.mem_append] at hw
   obtain ⟨get, a1, a2⟩ := shape_val hT hti ha.1.2 (hv 0 t v rfl rfl) h1 (fun y hy => hw y (.inl hy))
   obtain ⟨tvs, b1, b2, b3⟩ := shape_all hT (by simpa [allShB] using ha.2) (fun j t' v' e1 e2 => hv (j + 1) t' v' (by simpa using e1) (by simpa using e2)) h2 (fun y hy => hw y (.inr hy))
   exact ⟨mkTV ti get :: tvs, ⟨⟨ti, get, hti, rfl, a2⟩, b1⟩, ⟨a1, b2⟩, by simp [b3]⟩
theorem law_calls (hT : TabOk P E) {f : FuncId} {fn : Func} {s : ChangeSpec} {n : Nat} (hsh : allShB E n fn.params.toList = true) (hl : laidOutB P = true) {b : Nat} (hres : fn.resultTypes = #[b]) (hb : P.underlying b = some .bool)
   (hargs : argTys P fn.params.toList = true) (hvars : s.vars = []) (hs : ∀ ds : List (DataW H), ds.length = fn.params.size → s.fn H ds = { results := [.lit (.bool true)], args := ds })
   (hq : ∀ tvs, AllShpK K E n fn.params.toList tvs → CallQ P E f tvs [.v (.c (.bool true))])
   {W : World} {r : Reach} {base : Nat} {args : Array Value} {ds gs : List (DataW H)} {before : List MemPlace}
   (hval : ∀ (j : Nat) t v, fn.params[j]? = some t → args[j]? = some v → Value.okWide P W r base t v)
   (hW : DataW.Whole enc P fn.params.toList s.vars false W args.toList ds gs before)
   (hwt : (DataW.weightsEach P (fn.params.toList ++ s.plain.varTypes P) (ds ++ gs)).all (· ≤ K) = true)
   (hgl : GlOk E (fun b => b < W.heap.size) W) :
   Calls P f args W fun e W' => ∃ v, e = .returned v ∧ s.post enc P fn false true false false W args v W' := by
 have hW' := hW
 obtain ⟨p, q, hA, hV, rfl, hfz, hnd⟩ := hW
 have hV' : DataW.TrodVars enc P W (fun _ => true) [] gs q := by rw [hvars] at hV; exact hV
 obtain ⟨rfl, rfl⟩ := trodVars_none hV'
 have hvt : s.plain.varTypes P = [] := by
   unfold DataSpec.varTypes ChangeSpec.plain
   rw [hvars]; rfl
 simp only [hvt, List.append_nil, List.all_eq_true, decide_eq_true_eq] at hwt
 obtain ⟨tvs, a1, a2, a3⟩ := shape_all hT hsh (fun j t v e1 e2 => hval j t v (by simpa using e1) (by simpa using e2)) hA hwt
 have hc := hq tvs a1 (fun b => b < W.heap.size) W args.toList ⟨fun _ _ h => by (cases h), fun _ _ _ _ h => by (cases h), fun _ _ _ _ _ _ _ h => by (cases h), fun b hb => hb, fun _ _ => rfl, hgl⟩ a2
 rw [Array.toArray_toList] at hc
 refine (callsIn_wide.1 hc).mono fun e W' hp => ?_
 obtain ⟨val, β', Z', rfl, _, h3, h4, _, _⟩ := hp
 obtain rfl : val = .bool true := h3
 exact ⟨_, rfl, post_true hl hres hb hargs hvars hW' (by rw [List.append_nil]; exact hs _ (by simpa using a3)) h4.below⟩
end
end Go.Sx
namespace Go.Proofs.Ytpigkgoooekcgaa
open Go Go.Sx Bm Go.ChangeShapes Go.WideShapes Go.ChangeAt Go.RowKit
set_option maxRecDepth 100000
theorem own_knob : ownKnob Try.prog.godebug = none := by kernel_rfl
theorem laidOut : laidOutB Try.prog = true := by kernel_rfl
theorem gl_ok {W : World} : GlOk E0 (fun b => b < W.heap.size) W := fun g n get hg => by cases hg
theorem callQ_fit {P : Program} {E : Env} {f : FuncId} {tvs args : List TV} {rs : List RV} (hf : fitTVs tvs args) (h : CallQ P E f args rs) : CallQ P E f tvs rs :=
 fun Z w vs hs hr => h Z w vs hs (fitTVs_ok hf hr)
theorem ty3 : E0.ty 3 = some ⟨(.int .i64), 1, 8, [.int .i64 0]⟩ := rfl
theorem ty22 : E0.ty 22 = some ⟨(.slice 37), 1, 24, [.nils]⟩ := rfl
theorem ty24 : E0.ty 24 = some ⟨(.struct [(0, 3), (1, 3)]), 2, 16, [.int .i64 0, .int .i64 0]⟩ := rfl
theorem ty26 : E0.ty 26 = some ⟨(.struct [(0, 3), (1, 24), (3, 3), (4, 24)]), 6, 48, [.int .i64 0, .int .i64 0, .int .i64 0, .int .i64 0, .int .i64 0, .int .i64 0]⟩ := rfl
theorem ty37 : E0.ty 37 = some ⟨(.struct [(0, 3), (1, 3)]), 2, 16, [.int .i64 0, .int .i64 0]⟩ := rfl
theorem int_of {n : Nat} {g : Nat → CV} (h : Shp E0 (n + 1) 3 g) : ∃ a : Int, g 0 = .int .i64 a := let ⟨a, h1, _⟩ := h; ⟨a, h1⟩
theorem fit_int {g : Nat → CV} {j : Nat} {a : Int} (e : g j = .int .i64 a) : fitCV (fun _ => .bad) (g j) (.int .i64 a) := by
 rw [e]; exact ⟨trivial, rfl⟩
theorem fitP_int {x : CV} {a : Int} (e : x = .int .i64 a) : fitP x (.int .i64 a) := by subst e; rfl
theorem arg_int {n : Nat} {g : Nat → CV} (h : Shp E0 (n + 1) 3 g) : ∃ a : Int, fitTV (fun _ => .bad) (mkTV ⟨(.int .i64), 1, 8, [.int .i64 0]⟩ g) (intC a) := by
 obtain ⟨a, e⟩ := int_of h
 refine ⟨a, ?_⟩
 show fitCV _ (g 0) (.int .i64 a)
 exact fit_int e
theorem two_of {n : Nat} {g : Nat → CV} {i j : Nat} (h : ShpK.AllF (fun x => Shp E0 (n + 1) x.2 (fun j => g (x.1 + j))) [(i, 3), (j, 3)]) : (∃ a : Int, g i = .int .i64 a) ∧ ∃ b : Int, g j = .int .i64 b := by
 obtain ⟨h1, h2, _⟩ := h
 exact ⟨int_of h1, int_of h2⟩
theorem pair_of {n : Nat} {t : Nat} {ti : TI} {g : Nat → CV} (ht : E0.ty t = some ti) (hk : ti.kind = .struct [(0, 3), (1, 3)]) (h : Shp E0 (n + 2) t g) : (∃ a : Int, g 0 = .int .i64 a) ∧ ∃ b : Int, g 1 = .int .i64 b := by
 simp only [Shp, ShpK, ht, hk] at h
 exact two_of h
theorem rule_of {n : Nat} {g : Nat → CV} (h : Shp E0 (n + 3) 26 g) : ∃ r : Nat → Int, ∀ j, j < 6 → g j = .int .i64 (r j) := by
 have h' : ShpK.AllF (fun x => Shp E0 (n + 2) x.2 (fun j => g (x.1 + j))) [(0, 3), (1, 24), (3, 3), (4, 24)] := by
   simp only [Shp, ShpK, ty26] at h
   exact h
 obtain ⟨h0, h1, h3, h4, _⟩ := h'
 obtain ⟨a0, e0⟩ := int_of h0
 obtain ⟨⟨a1, e1⟩, a2, e2⟩ := pair_of ty24 rfl h1
 obtain ⟨a3, e3⟩ := int_of h3
 obtain ⟨⟨a4, e4⟩, a5, e5⟩ := pair_of ty24 rfl h4
 refine ⟨fun | 0 => a0 | 1 => a1 | 2 => a2 | 3 => a3 | 4 => a4 | _ => a5, fun j hj => ?_⟩
 match j, hj with
 | 0, _ => exact e0
 | 1, _ => exact e1
 | 2, _ => exact e2
 | 3, _ => exact e3
 | 4, _ => exact e4
 | 5, _ => exact e5
theorem arg_rule {n : Nat} {g : Nat → CV} (h : Shp E0 (n + 3) 26 g) : ∃ r : Nat → Int, fitTV (fun _ => .bad) (mkTV ⟨(.struct [(0, 3), (1, 24), (3, 3), (4, 24)]), 6, 48, [.int .i64 0, .int .i64 0, .int .i64 0, .int .i64 0, .int .i64 0, .int .i64 0]⟩ g) (arrTV 6 r) := by
 obtain ⟨r, hr⟩ := rule_of h
 exact ⟨r, trivial, ⟨⟨⟨⟨⟨⟨trivial, fit_int (hr 0 (by decide))⟩, fit_int (hr 1 (by decide))⟩, fit_int (hr 2 (by decide))⟩, fit_int (hr 3 (by decide))⟩, fit_int (hr 4 (by decide))⟩, fit_int (hr 5 (by decide))⟩⟩
theorem spans_of {n : Nat} {g : Nat → CV} (h : Shp E0 (n + 3) 22 g) : ∃ (len : Nat) (f : Nat → Nat → Int), len < 4611686018427387904 ∧ fitTV (fun _ => .bad) (mkTV ⟨(.slice 37), 1, 24, [.nils]⟩ g) (.c (spansCV len f)) := by
 obtain ⟨len, c, e, hl, hc⟩ := h
 have hl : len * 16 ≤ 140737488351232 := hl
 have hx : ∀ i, ∃ r : Nat → Int, i < len → c i 0 = .int .i64 (r 0) ∧ c i 1 = .int .i64 (r 1) := fun i => by
   by_cases hi : i < len
   · obtain ⟨⟨a, e0⟩, b, e1⟩ := pair_of ty37 rfl (hc i hi)
     exact ⟨fun j => if j = 0 then a else b, fun _ => ⟨e0, e1⟩⟩
   · exact ⟨fun _ => 0, fun h => absurd h hi⟩
 obtain ⟨f, hf⟩ := Classical.axiomOfChoice hx
 refine ⟨len, f, by omega, ?_⟩
 have e : g 0 = .vs 2 len c := e
 show fitCV _ (g 0) (spansCV len f)
 rw [e]
 refine ⟨trivial, trivial, rfl, fun i hi => ?_⟩
 obtain ⟨h1, h2⟩ := hf i hi
 exact ⟨⟨trivial, fitP_int h1⟩, fitP_int h2⟩
end Go.Proofs.Ytpigkgoooekcgaa
