/- Texts for the law of the last part, part 11. -/
import Derived.Test.YtpigkgoooekcgaaTopPackedP10
set_option linter.unusedSimpArgs false
set_option linter.unusedVariables false
namespace Go.Proofs.Ytpigkgoooekcgaa
open Go Go.Sx Bm
set_option maxRecDepth 100000
theorem runs (f : Nat) (h : (lookFn fnTab f).isSome = true) : ∃ fn c, Try.prog.funcs[f]? = some fn ∧ (fn.name == "runtime.NumGoroutine") = false ∧ fn.body = some c := fn_runs h
def eOf1 : ESpec where
 γ := Int × Int
 ok g := 0 ≤ g.1 ∧ g.1 ≤ 40 ∧ -100 ≤ g.2 ∧ g.2 ≤ 100
 arg g := [twoTV g.1 g.2, .c (.ptr 0 0), .c (.ptr 1 0)]
 hp _ := [(.arg 1, .box 1 (fun _ => .mp 2)), (.arg 2, .box 1 (fun _ => .fn 94 [] (fun _ _ => .any) 2 (ofList [.ptr 0 0, .ptr 1 0]))), (.cell 0 0, .mpI MC Inv)]
 res g := [intC (cI g.1 g.2)]
def muOf1 (g : Int × Int) : Nat := g.1.toNat
def wkOf1 : List (Nat × Nat × (St → List (Nat × Blk))) := [(94, 7, fun _ => [(2, .mpI MC Inv)])]
theorem is94 : (lookFn fnTab 94).isSome = true := by kernel_rfl
theorem r94n (n : Nat) (o k : Int) (h : eOf1.ok (o, k)) (hn : muOf1 (o, k) = n) (ms : Nat → List Int → Option Int) (hm : ∀ j T I, canonHp (eOf1.hp (o, k)) j = some (.mpI T I) → ∀ ks x, ms j ks = some x → I ks x) : inlBody (E0.all [] [(94, { eOf1 with ok := fun g => eOf1.ok g ∧ muOf1 g < n })] [] [] [] wkOf1) (vc (E0.all [] [(94, { eOf1 with ok := fun g => eOf1.ok g ∧ muOf1 g < n })] [] [] [] wkOf1) 6) 94 (eOf1.arg (o, k)) (openHp ms (canonHp (eOf1.hp (o, k)))) (lenR (eOf1.hp (o, k))) [] (fun v hp _ _ => evenFit eOf1 (o, k) v hp) := by
 refine of_red (q := ((k == (0 : Int)) = true→((True∧True∧True)∧(True∧True∧True∧True∧(True∧True∧(0 : Nat) = (0 : Nat))∧True∧(0 : Nat) = (0 : Nat))∧(True∧∀ (ks : List Int) (x : Int), ms ((0 : Nat) + (1 : Nat) + (1 : Nat)) ks = some x→x = cI (ks.getD (0 : Nat) (0 : Int)) (ks.getD (1 : Nat) (0 : Int)))∧True)∧True∧(1 : Int) = cI o k)∧((k == (0 : Int)) = false→((o == k && (k == k && true)) = true→((True∧True∧True)∧(True∧True∧True∧True∧(True∧True∧(0 : Nat) = (0 : Nat))∧True∧(0 : Nat) = (0 : Nat))∧(True∧∀ (ks : List Int) (x : Int), ms ((0 : Nat) + (1 : Nat) + (1 : Nat)) ks = some x→x = cI (ks.getD (0 : Nat) (0 : Int)) (ks.getD (1 : Nat) (0 : Int)))∧True)∧True∧(1 : Int) = cI o k)∧((o == k && (k == k && true)) = false→(decide (k < (0 : Int)) = true→((True∧True∧True)∧(True∧True∧True∧True∧(True∧True∧(0 : Nat) = (0 : Nat))∧True∧(0 : Nat) = (0 : Nat))∧(True∧∀ (ks : List Int) (x : Int), ms ((0 : Nat) + (1 : Nat) + (1 : Nat)) ks = some x→x = cI (ks.getD (0 : Nat) (0 : Int)) (ks.getD (1 : Nat) (0 : Int)))∧True)∧True∧(0 : Int) = cI o k)∧(decide (k < (0 : Int)) = false→(decide (o < k) = true→((True∧True∧True)∧(True∧True∧True∧True∧(True∧True∧(0 : Nat) = (0 : Nat))∧True∧(0 : Nat) = (0 : Nat))∧(True∧∀ (ks : List Int) (x : Int), ms ((0 : Nat) + (1 : Nat) + (1 : Nat)) ks = some x→x = cI (ks.getD (0 : Nat) (0 : Int)) (ks.getD (1 : Nat) (0 : Int)))∧True)∧True∧(0 : Int) = cI o k)∧(decide (o < k) = false→inRange IntKind.i64 o∧inRange IntKind.i64 k∧((!isSm (ms (2 : Nat) [o, k])) = true→(True∧∀ (ks : List Int) (x : Int), ms (2 : Nat) ks = some x→x = cI (ks.getD (0 : Nat) (0 : Int)) (ks.getD (1 : Nat) (0 : Int)))∧inRange IntKind.i64 (o - (1 : Int))∧(lookFn fnTab (94 : FuncId)).isSome = true∧∃ (g : Int × Int), (((0 : Int)≤g.fst∧g.fst≤(40 : Int)∧(-100 : Int)≤g.snd∧g.snd≤(100 : Int))∧muOf1 g < n)∧True∧((True∧(True∧True∧o - (1 : Int) = g.fst)∧True∧k = g.snd)∧(True∧(0 : Nat) = (0 : Nat))∧(True∧(0 : Nat) = (0 : Nat))∧True)∧((True∧True∧True)∧(True∧True∧True∧True∧(True∧True∧(0 : Nat) = (0 : Nat))∧True∧(0 : Nat) = (0 : Nat))∧(True∧∀ (ks : List Int) (x : Int), x = cI (ks.getD (0 : Nat) (0 : Int)) (ks.getD (1 : Nat) (0 : Int))→x = cI (ks.getD (0 : Nat) (0 : Int)) (ks.getD (1 : Nat) (0 : Int)))∧True)∧((True∧True∧True)∧(True∧True∧True∧True∧(True∧True∧(0 : Nat) = (0 : Nat))∧True∧(0 : Nat) = (0 : Nat))∧(True∧∀ (ks : List Int) (x : Int), x = cI (ks.getD (0 : Nat) (0 : Int)) (ks.getD (1 : Nat) (0 : Int))→x = cI (ks.getD (0 : Nat) (0 : Int)) (ks.getD (1 : Nat) (0 : Int)))∧True)∧inRange IntKind.i64 (o - (1 : Int))∧inRange IntKind.i64 (k - (1 : Int))∧(lookFn fnTab (94 : FuncId)).isSome = true∧∃ (g_1 : Int × Int), (((0 : Int)≤g_1.fst∧g_1.fst≤(40 : Int)∧(-100 : Int)≤g_1.snd∧g_1.snd≤(100 : Int))∧muOf1 g_1 < n)∧True∧((True∧(True∧True∧o - (1 : Int) = g_1.fst)∧True∧k - (1 : Int) = g_1.snd)∧(True∧(0 : Nat) = (0 : Nat))∧(True∧(0 : Nat) = (0 : Nat))∧True)∧((True∧True∧True)∧(True∧True∧True∧True∧(True∧True∧(0 : Nat) = (0 : Nat))∧True∧(0 : Nat) = (0 : Nat))∧(True∧∀ (ks : List Int) (x : Int), x = cI (ks.getD (0 : Nat) (0 : Int)) (ks.getD (1 : Nat) (0 : Int))→x = cI (ks.getD (0 : Nat) (0 : Int)) (ks.getD (1 : Nat) (0 : Int)))∧True)∧((True∧True∧True)∧(True∧True∧True∧True∧(True∧True∧(0 : Nat) = (0 : Nat))∧True∧(0 : Nat) = (0 : Nat))∧(True∧∀ (ks : List Int) (x : Int), x = cI (ks.getD (0 : Nat) (0 : Int)) (ks.getD (1 : Nat) (0 : Int))→x = cI (ks.getD (0 : Nat) (0 : Int)) (ks.getD (1 : Nat) (0 : Int)))∧True)∧inRange IntKind.i64 (cI g.fst g.snd + cI g_1.fst g_1.snd)∧cI g.fst g.snd + cI g_1.fst g_1.snd = cI ([o, k].getD (0 : Nat) (0 : Int)) ([o, k].getD (1 : Nat) (0 : Int))∧inRange IntKind.i64 o∧inRange IntKind.i64 k∧((True∧True∧True)∧(True∧True∧True∧True∧(True∧True∧(0 : Nat) = (0 : Nat))∧True∧(0 : Nat) = (0 : Nat))∧(True∧∀ (ks : List Int) (x : Int), x = cI (ks.getD (0 : Nat) (0 : Int)) (ks.getD (1 : Nat) (0 : Int))→x = cI (ks.getD (0 : Nat) (0 : Int)) (ks.getD (1 : Nat) (0 : Int)))∧True)∧True∧cI g.fst g.snd + cI g_1.fst g_1.snd = cI o k)∧((!isSm (ms (2 : Nat) [o, k])) = false→((True∧True∧True)∧(True∧True∧True∧True∧(True∧True∧(0 : Nat) = (0 : Nat))∧True∧(0 : Nat) = (0 : Nat))∧(True∧∀ (ks : List Int) (x : Int), ms ((0 : Nat) + (1 : Nat) + (1 : Nat)) ks = some x→x = cI (ks.getD (0 : Nat) (0 : Int)) (ks.getD (1 : Nat) (0 : Int)))∧True)∧True∧valOf (ms (2 : Nat) [o, k]) = cI o k)))))) (by kernel_rfl) ?_
 have hI : ∀ ks x, ms 2 ks = some x → x = cI (ks.getD 0 0) (ks.getD 1 0) := hm 2 MC Inv rfl
 obtain ⟨h0, h1, h2, h3⟩ : 0 ≤ o ∧ o ≤ 40 ∧ -100 ≤ k ∧ k ≤ 100 := h
 have hmu : o.toNat = n := hn
 simp only [true_and, and_true, inR, Prod.exists, Prod.forall, and_assoc, exists_and_left, exists_eq_left', exists_eq_left, forall_eq, exists_const, forall_const, loopN, loopM, fa2, fas, fas2, dup1, dup2, dup3, dup4, ite_true, exhs, exhn, exhz, exho, exA, ex1, ex2, ex3, ex4, ex5, beqI, bneI, decide_true, Bool.true_and, decide_eq_true_eq, decide_eq_false_iff_not, ne_eq, Decidable.not_not]
 have c := fun (a : 0 < k) (b : k < o) => cI_step (n := o) (k := k) a b
 have c1 := cI_bd (n := o - 1) (k := k) (by omega)
 have c2 := cI_bd (n := o - 1) (k := k - 1) (by omega)
 have mu1 : muOf1 (o - 1, k) = (o - 1).toNat := rfl
 have mu2 : muOf1 (o - 1, k - 1) = (o - 1).toNat := rfl
 refine ⟨fun e => ⟨hI, by subst e; exact cI_zero.symm⟩, fun n0 => ⟨fun e => ⟨hI, ?_⟩, fun n1 => ⟨fun e => ⟨hI, (cI_neg e).symm⟩, fun n2 => ⟨fun e => ⟨hI, (cI_big h0 e).symm⟩, fun n3 => ⟨by omega, by omega, by omega, by omega, fun hm => ?_, fun hm => ⟨hI, ?_⟩⟩⟩⟩⟩⟩
 · have e : o = k := by simpa using e
   subst e
   exact (cI_self h0).symm
 · have n1 : ¬ o = k := by simpa using n1
   have c := c (by omega) (by omega)
   exact ⟨hI, by omega, by omega, is94, o - 1, by omega, by omega, k, by omega, by omega, by omega, rfl, rfl, by omega, by omega, by omega, by omega, is94, o - 1, by omega, by omega, k - 1, by omega, by omega, by omega, rfl, rfl, by omega, by omega, c.symm, by omega, by omega, by omega, by omega, c.symm⟩
 · cases hx : ms 2 [o, k] with
   | none => rw [hx] at hm; simp [isSm] at hm
   | some x => exact hI _ _ hx
theorem r94 : ∀ g, eOf1.ok g → SemK Try.prog E0 94 eOf1.toK g :=
 even_at E0_ok [] SigsOk.nil [] EvensOk.nil runs eOf1 (fun _ => []) (fun _ => []) [] (fun _ => wkOf1) muOf1 (fun n g hg hn ms hm => r94n n g.1 g.2 hg hn ms hm)
def lotTV (N : Nat) : TV := .a 2 (fun j => if j = 0 then .int .i64 N else .mp 0)
def eCount : ESpec where
 γ := Int × Int
 ok g := 0 ≤ g.1 ∧ g.1 ≤ 40 ∧ -100 ≤ g.2 ∧ g.2 ≤ 100
 arg g := [.c (.mp 0), intC g.1, intC g.2]
 hp _ := [(.arg 0, .mpI MC Inv)]
 res g := [intC (cI g.1 g.2)]
def wkAt (f : Nat) : List (Nat × Nat × (St → List (Nat × Blk))) := [(f, 0, fun _ => [(0, .mpI MC Inv)])]
def V1 : List (Nat × ESpec) := [(94, eOf1)]
theorem V1_ok : EvensOk Try.prog E0 V1 := EvensOk.nil.cons r94
theorem r89n (n : Nat) (o k : Int) (h : eCount.ok (o, k)) (ms : Nat → List Int → Option Int) (hm : ∀ j T I, canonHp (eCount.hp (o, k)) j = some (.mpI T I) → ∀ ks x, ms j ks = some x → I ks x) : inlBody (E0.all [] ((89, { eCount with ok := fun g => eCount.ok g ∧ 0 < n }) :: V1) [] [] [] (wkAt 89)) (vc (E0.all [] ((89, { eCount with ok := fun g => eCount.ok g ∧ 0 < n }) :: V1) [] [] [] (wkAt 89)) 6) 89 (eCount.arg (o, k)) (openHp ms (canonHp (eCount.hp (o, k)))) (lenR (eCount.hp (o, k))) [] (fun v hp _ _ => evenFit eCount (o, k) v hp) := by
 refine of_red (q := (True∧∀ (ks : List Int) (x : Int), ms (0 : Nat) ks = some x→x = cI (ks.getD (0 : Nat) (0 : Int)) (ks.getD (1 : Nat) (0 : Int)))∧(lookFn fnTab (94 : Nat)).isSome = true∧∃ (g : Int × Int), ((0 : Int)≤g.fst∧g.fst≤(40 : Int)∧(-100 : Int)≤g.snd∧g.snd≤(100 : Int))∧True∧((True∧(True∧True∧o = g.fst)∧True∧k = g.snd)∧(True∧(0 : Nat) = (0 : Nat))∧(True∧(0 : Nat) = (0 : Nat))∧True)∧((True∧True∧True)∧(True∧True∧True∧True∧(True∧True∧(0 : Nat) = (0 : Nat))∧True∧(0 : Nat) = (0 : Nat))∧(True∧∀ (ks : List Int) (x : Int), x = cI (ks.getD (0 : Nat) (0 : Int)) (ks.getD (1 : Nat) (0 : Int))→x = cI (ks.getD (0 : Nat) (0 : Int)) (ks.getD (1 : Nat) (0 : Int)))∧True)∧((True∧True∧True)∧(True∧True∧True∧True∧(True∧True∧(0 : Nat) = (0 : Nat))∧True∧(0 : Nat) = (0 : Nat))∧(True∧∀ (ks : List Int) (x : Int), x = cI (ks.getD (0 : Nat) (0 : Int)) (ks.getD (1 : Nat) (0 : Int))→x = cI (ks.getD (0 : Nat) (0 : Int)) (ks.getD (1 : Nat) (0 : Int)))∧True)∧((True∧∀ (ks : List Int) (x : Int), x = cI (ks.getD (0 : Nat) (0 : Int)) (ks.getD (1 : Nat) (0 : Int))→x = cI (ks.getD (0 : Nat) (0 : Int)) (ks.getD (1 : Nat) (0 : Int)))∧True)∧True∧cI g.fst g.snd = cI o k) (by kernel_rfl) ?_
 have hI : ∀ ks x, ms 0 ks = some x → x = cI (ks.getD 0 0) (ks.getD 1 0) := hm 0 MC Inv rfl
 obtain ⟨h0, h1, h2, h3⟩ : 0 ≤ o ∧ o ≤ 40 ∧ -100 ≤ k ∧ k ≤ 100 := h
 simp only [true_and, and_true, inR, Prod.exists, Prod.forall, and_assoc, exists_and_left, exists_eq_left', exists_eq_left, forall_eq, exists_const, forall_const, loopN, loopM, fa2, fas, fas2, dup1, dup2, dup3, dup4, ite_true, exhs, exhn, exhz, exho, exA, ex1, ex2, ex3, ex4, ex5, beqI, bneI, decide_true, Bool.true_and, decide_eq_true_eq, decide_eq_false_iff_not, ne_eq, Decidable.not_not]
 exact ⟨hI, is94, o, h0, h1, k, h2, h3, rfl, rfl, rfl⟩
theorem r89 : ∀ g, eCount.ok g → SemK Try.prog E0 89 eCount.toK g :=
 even_at E0_ok [] SigsOk.nil V1 V1_ok runs eCount (fun _ => []) (fun _ => []) [] (fun _ => wkAt 89) (fun _ => 0) (fun n g hg _ ms hm => r89n n g.1 g.2 hg ms hm)
structure FndIn where
 N : Nat
 b : Nat
 o : Nat
 lo : Nat
 hi : Nat
def fndS (g : FndIn) (j : Nat) : Nat := sN j (fun i => ch g.b (g.lo + i) * ch (g.N - g.b) (g.o - (g.lo + i)))
def eFound : ESpec where
 γ := FndIn
 ok g := g.N ≤ 40 ∧ g.b ≤ g.N ∧ g.o ≤ g.N ∧ g.hi ≤ g.o ∧ g.lo ≤ g.hi + 1
 arg g := [lotTV g.N, intC g.b, intC g.o, intC g.lo, intC g.hi]
 hp _ := [(.argc 0 1, .mpI MC Inv)]
 res g := [twoTV (fnd g.N g.b g.o g.lo g.hi) (ch g.N g.o)]
def aFnd (g : FndIn) : Ann := { G := Nat, ok := fun _ j => j ≤ g.hi + 1 - g.lo, dom := fun _ => [], tm := fun _ j => [(11, .t (intC (fndS g j))), (12, .t (intC (g.lo + j : Nat)))], hp := fun _ _ => [], mu := fun _ j => g.hi + 1 - g.lo - j }
theorem is89 : (lookFn fnTab 89).isSome = true := by kernel_rfl
def V2 : List (Nat × ESpec) := [(89, eCount)]
theorem V2_ok : EvensOk Try.prog E0 V2 := EvensOk.nil.cons r89
theorem r78n (n : Nat) (g : FndIn) (h : eFound.ok g) (ms : Nat → List Int → Option Int) (hm : ∀ j T I, canonHp (eFound.hp g) j = some (.mpI T I) → ∀ ks x, ms j ks = some x → I ks x) : inlBody (E0.all [] ((78, { eFound with ok := fun g => eFound.ok g ∧ 0 < n }) :: V2) [(78, 3, aFnd g)] [] [] (wkAt 78)) (vc (E0.all [] ((78, { eFound with ok := fun g => eFound.ok g ∧ 0 < n }) :: V2) [(78, 3, aFnd g)] [] [] (wkAt 78)) 6) 78 (eFound.arg g) (openHp ms (canonHp (eFound.hp g))) (lenR (eFound.hp g)) [] (fun v hp _ _ => evenFit eFound g v hp) := by
 refine of_red (q := (True∧∀ (ks : List Int) (x : Int), ms (0 : Nat) ks = some x→x = cI (ks.getD (0 : Nat) (0 : Int)) (ks.getD (1 : Nat) (0 : Int)))∧(∃ (g_1 : Nat), g_1≤g.hi + (1 : Nat) - g.lo∧True∧((True∧(0 : Int) = (↑(fndS g g_1) : Int))∧(True∧(↑g.lo : Int) = (↑(g.lo + g_1) : Int))∧True)∧True)∧∀ (g_1 : Nat), g_1≤g.hi + (1 : Nat) - g.lo→(decide ((↑(g.lo + g_1) : Int)≤(↑g.hi : Int)) = true→(lookFn fnTab (89 : Nat)).isSome = true∧∃ (g_2 : Int × Int), ((0 : Int)≤g_2.fst∧g_2.fst≤(40 : Int)∧(-100 : Int)≤g_2.snd∧g_2.snd≤(100 : Int))∧True∧(True∧(True∧(↑g.b : Int) = g_2.fst)∧(True∧(↑(g.lo + g_1) : Int) = g_2.snd)∧True)∧((True∧∀ (ks : List Int) (x : Int), x = cI (ks.getD (0 : Nat) (0 : Int)) (ks.getD (1 : Nat) (0 : Int))→x = cI (ks.getD (0 : Nat) (0 : Int)) (ks.getD (1 : Nat) (0 : Int)))∧True)∧((True∧∀ (ks : List Int) (x : Int), x = cI (ks.getD (0 : Nat) (0 : Int)) (ks.getD (1 : Nat) (0 : Int))→x = cI (ks.getD (0 : Nat) (0 : Int)) (ks.getD (1 : Nat) (0 : Int)))∧True)∧inRange IntKind.i64 ((↑g.N : Int) - (↑g.b : Int))∧inRange IntKind.i64 ((↑g.o : Int) - (↑(g.lo + g_1) : Int))∧(lookFn fnTab (89 : Nat)).isSome = true∧∃ (g_3 : Int × Int), ((0 : Int)≤g_3.fst∧g_3.fst≤(40 : Int)∧(-100 : Int)≤g_3.snd∧g_3.snd≤(100 : Int))∧True∧(True∧(True∧(↑g.N : Int) - (↑g.b : Int) = g_3.fst)∧(True∧(↑g.o : Int) - (↑(g.lo + g_1) : Int) = g_3.snd)∧True)∧((True∧∀ (ks : List Int) (x : Int), x = cI (ks.getD (0 : Nat) (0 : Int)) (ks.getD (1 : Nat) (0 : Int))→x = cI (ks.getD (0 : Nat) (0 : Int)) (ks.getD (1 : Nat) (0 : Int)))∧True)∧((True∧∀ (ks : List Int) (x : Int), x = cI (ks.getD (0 : Nat) (0 : Int)) (ks.getD (1 : Nat) (0 : Int))→x = cI (ks.getD (0 : Nat) (0 : Int)) (ks.getD (1 : Nat) (0 : Int)))∧True)∧inRange IntKind.i64 (cI g_2.fst g_2.snd * cI g_3.fst g_3.snd)∧inRange IntKind.i64 ((↑(fndS g g_1) : Int) + cI g_2.fst g_2.snd * cI g_3.fst g_3.snd)∧inRange IntKind.i64 ((↑(g.lo + g_1) : Int) + (1 : Int))∧∃ (g' : Nat), g'≤g.hi + (1 : Nat) - g.lo∧g.hi + (1 : Nat) - g.lo - g' < g.hi + (1 : Nat) - g.lo - g_1∧True∧((True∧(↑(fndS g g_1) : Int) + cI g_2.fst g_2.snd * cI g_3.fst g_3.snd = (↑(fndS g g') : Int))∧(True∧(↑(g.lo + g_1) : Int) + (1 : Int) = (↑(g.lo + g') : Int))∧True)∧True)∧(decide ((↑(g.lo + g_1) : Int)≤(↑g.hi : Int)) = false→(lookFn fnTab (89 : Nat)).isSome = true∧∃ (g_2 : Int × Int), ((0 : Int)≤g_2.fst∧g_2.fst≤(40 : Int)∧(-100 : Int)≤g_2.snd∧g_2.snd≤(100 : Int))∧True∧(True∧(True∧(↑g.N : Int) = g_2.fst)∧(True∧(↑g.o : Int) = g_2.snd)∧True)∧((True∧∀ (ks : List Int) (x : Int), x = cI (ks.getD (0 : Nat) (0 : Int)) (ks.getD (1 : Nat) (0 : Int))→x = cI (ks.getD (0 : Nat) (0 : Int)) (ks.getD (1 : Nat) (0 : Int)))∧True)∧((True∧∀ (ks : List Int) (x : Int), x = cI (ks.getD (0 : Nat) (0 : Int)) (ks.getD (1 : Nat) (0 : Int))→x = cI (ks.getD (0 : Nat) (0 : Int)) (ks.getD (1 : Nat) (0 : Int)))∧True)∧((True∧∀ (ks : List Int) (x : Int), x = cI (ks.getD (0 : Nat) (0 : Int)) (ks.getD (1 : Nat) (0 : Int))→x = cI (ks.getD (0 : Nat) (0 : Int)) (ks.getD (1 : Nat) (0 : Int)))∧True)∧True∧(True∧True∧(↑(fndS g g_1) : Int) = (↑(fnd g.N g.b g.o g.lo g.hi) : Int))∧True∧cI g_2.fst g_2.snd = (↑(ch g.N g.o) : Int))) (by kernel_rfl) ?_
 have hI : ∀ ks x, ms 0 ks = some x → x = cI (ks.getD 0 0) (ks.getD 1 0) := hm 0 MC Inv rfl
 obtain ⟨N, b, o, lo, hi⟩ := g
 obtain ⟨h0, h1, h2, h3, h4⟩ : N ≤ 40 ∧ b ≤ N ∧ o ≤ N ∧ hi ≤ o ∧ lo ≤ hi + 1 := h
 simp only [true_and, and_true, inR, Prod.exists, Prod.forall, and_assoc, exists_and_left, exists_eq_left', exists_eq_left, forall_eq, exists_const, forall_const, loopN, loopM, fa2, fas, fas2, dup1, dup2, dup3, dup4, ite_true, exhs, exhn, exhz, exho, exA, ex1, ex2, ex3, ex4, ex5, beqI, bneI, decide_true, Bool.true_and, decide_eq_true_eq, decide_eq_false_iff_not, ne_eq, Decidable.not_not]
 have top := fnd_le (N := N) (b := b) (o := o) (lo := lo) (hi := hi) h1 h3
 have top2 := ch_le (n := N) (k := o) h0
 have mono : ∀ j, j ≤ hi + 1 - lo → fndS ⟨N, b, o, lo, hi⟩ j ≤ fnd N b o lo hi := fun j hj => sN_mono hj
 refine ⟨hI, ⟨0, Nat.zero_le _, rfl, rfl⟩, fun j hj => ⟨fun hlt => ?_, fun hlt => ?_⟩⟩
 · have e1 : fndS ⟨N, b, o, lo, hi⟩ (j + 1) = fndS ⟨N, b, o, lo, hi⟩ j + ch b (lo + j) * ch (N - b) (o - (lo + j)) := rfl
   have e2 := mono (j + 1) (by omega)
   have c1 : cI (b : Int) ((lo + j : Nat) : Int) * cI ((N : Int) - b) ((o : Int) - ((lo + j : Nat) : Int)) = ((ch b (lo + j) * ch (N - b) (o - (lo + j)) : Nat) : Int) := by
     rw [show (N : Int) - b = ((N - b : Nat) : Int) by omega, show (o : Int) - ((lo + j : Nat) : Int) = ((o - (lo + j) : Nat) : Int) by omega, cI_nat, cI_nat]
     exact (Int.natCast_mul _ _).symm
   generalize ch b (lo + j) * ch (N - b) (o - (lo + j)) = T at e1 c1
   exact ⟨is89, _, by omega, by omega, _, by omega, by omega, rfl, rfl, by omega, by omega, by omega, by omega, is89, _, by omega, by omega, _, by omega, by omega, rfl, rfl, by omega, by omega, by omega, by omega, by omega, by omega, j + 1, by omega, by omega, by omega, by omega⟩
 · obtain rfl : j = hi + 1 - lo := by omega
   exact ⟨is89, _, by omega, by omega, _, by omega, by omega, rfl, rfl, rfl, cI_nat N o⟩
theorem r78 : ∀ g, eFound.ok g → SemK Try.prog E0 78 eFound.toK g :=
 even_at E0_ok [] SigsOk.nil V2 V2_ok runs eFound (fun g => [(78, 3, aFnd g)]) (fun _ => []) [] (fun _ => wkAt 78) (fun _ => 0) (fun n g hg _ ms hm => r78n n g hg ms hm)
end Go.Proofs.Ytpigkgoooekcgaa
namespace Go.Proofs.Ytpigkgoooekcgaa
open Go Go.Sx Bm
set_option maxRecDepth 100000
def sIn : Sig := ⟨Int × Int × Int, fun x => [intC x.1, intC x.2.1, intC x.2.2], fun _ => True, fun x => [.v (.c (.bool (within x.1 x.2.1 x.2.2)))]⟩
theorem q56 (x : sIn.α) : CallQ Try.prog E0 56 (sIn.arg x) (sIn.res x) := by
 refine bare_all E0_ok [] SigsOk.nil [] EvensOk.nil runs [] [] [] [] (fuel := 5) ?_
 refine of_red (q := (decide (x.snd.fst≤x.fst) = true→True∧decide (x.fst≤x.snd.snd) = within x.fst x.snd.fst x.snd.snd)∧(decide (x.snd.fst≤x.fst) = false→True∧within x.fst x.snd.fst x.snd.snd = false)) (by kernel_rfl) ?_
 simp [within]
 try omega
theorem q10 (x : sIn.α) : CallQ Try.prog E0 10 (sIn.arg x) (sIn.res x) := by
 refine bare_all E0_ok [] SigsOk.nil [] EvensOk.nil runs [] [] [] [] (fuel := 5) ?_
 refine of_red (q := (decide (x.snd.fst≤x.fst) = true→True∧decide (x.fst≤x.snd.snd) = within x.fst x.snd.fst x.snd.snd)∧(decide (x.snd.fst≤x.fst) = false→True∧within x.fst x.snd.fst x.snd.snd = false)) (by kernel_rfl) ?_
 simp [within]
 try omega
def TA : List (Nat × Sig) := (56, sIn) :: (10, sIn) :: []
theorem TA_ok : SigsOk Try.prog E0 TA := ((SigsOk.nil.cons (runs 10 (by kernel_rfl)) fun x _ => q10 x).cons (runs 56 (by kernel_rfl)) fun x _ => q56 x)
def sOdd : Sig := ⟨Int × Int, fun x => [twoTV x.1 x.2], fun _ => True, fun x => [.v (.c (.bool (oddsOk x.1 x.2)))]⟩
theorem q79 (x : sOdd.α) : CallQ Try.prog E0 79 (sOdd.arg x) (sOdd.res x) := by
 refine bare_all E0_ok TA TA_ok [] EvensOk.nil runs [] [] [] [] (fuel := 5) ?_
 refine of_red (q := ∃ (x_1 : Int × Int × Int), ((True∧x.snd = x_1.fst)∧(True∧(1 : Int) = x_1.snd.fst)∧(True∧(1000 : Int) = x_1.snd.snd)∧True)∧True∧(within x_1.fst x_1.snd.fst x_1.snd.snd = true→∃ (x_2 : Int × Int × Int), ((True∧x.fst = x_2.fst)∧(True∧(0 : Int) = x_2.snd.fst)∧(True∧x.snd = x_2.snd.snd)∧True)∧True∧True∧within x_2.fst x_2.snd.fst x_2.snd.snd = oddsOk x.fst x.snd)∧(within x_1.fst x_1.snd.fst x_1.snd.snd = false→True∧oddsOk x.fst x.snd = false)) (by kernel_rfl) ?_
 simp only [true_and, and_true, inR, Prod.exists, Prod.forall, and_assoc, exists_and_left, exists_eq_left', exists_eq_left, forall_eq, exists_const, forall_const, loopN, loopM, fa2, fas, fas2, dup1, dup2, dup3, dup4, ite_true, exhs, exhn, exhz, exho, exA, ex1, ex2, ex3, ex4, ex5, beqI, bneI, decide_true, Bool.true_and, decide_eq_true_eq, decide_eq_false_iff_not, ne_eq, Decidable.not_not]
 unfold oddsOk
 exact ⟨fun h => by rw [h, Bool.true_and], fun h => by rw [h, Bool.false_and]⟩
def sRed : Sig := ⟨Nat × Nat, fun x => [twoTV x.1 x.2], fun x => 0 < x.2 ∧ x.1 ≤ 1099511627776 ∧ x.2 ≤ 1099511627776, fun x => [.v (twoTV (x.1 / Nat.gcd x.1 x.2 : Nat) (x.2 / Nat.gcd x.1 x.2 : Nat))]⟩
def aRed (t u : Nat) (a d : Nat) : Ann := { G := Nat × Nat, ok := fun _ g => Nat.gcd g.1 g.2 = Nat.gcd a d ∧ g.1 ≤ 1099511627776 ∧ g.2 ≤ 1099511627776, dom := fun _ => [], tm := fun _ g => [(t, .t (intC g.1)), (u, .t (intC g.2))], hp := fun _ _ => [], mu := fun _ g => g.2 }
theorem q59 (x : sRed.α) (h : sRed.pre x) : CallQ Try.prog E0 59 (sRed.arg x) (sRed.res x) := by
 obtain ⟨a, d⟩ := x
 refine bare_all E0_ok TA TA_ok [] EvensOk.nil runs [(59, 2, aRed 3 4 a d)] [] [] [] (fuel := 5) ?_
 refine of_red (q := (∃ (g : Nat × Nat), (g.fst.gcd g.snd = a.gcd d∧g.fst≤(1099511627776 : Nat)∧g.snd≤(1099511627776 : Nat))∧True∧((True∧(↑a : Int) = (↑g.fst : Int))∧(True∧(↑d : Int) = (↑g.snd : Int))∧True)∧True)∧∀ (g : Nat × Nat), g.fst.gcd g.snd = a.gcd d∧g.fst≤(1099511627776 : Nat)∧g.snd≤(1099511627776 : Nat)→(((↑g.snd : Int) != (0 : Int)) = true→(↑g.snd : Int) ≠ (0 : Int)∧∃ (g' : Nat × Nat), (g'.fst.gcd g'.snd = a.gcd d∧g'.fst≤(1099511627776 : Nat)∧g'.snd≤(1099511627776 : Nat))∧g'.snd < g.snd∧True∧((True∧(↑g.snd : Int) = (↑g'.fst : Int))∧(True∧(↑g.fst : Int).tmod (↑g.snd : Int) = (↑g'.snd : Int))∧True)∧True)∧(((↑g.snd : Int) != (0 : Int)) = false→(↑g.fst : Int) ≠ (0 : Int)∧inRange IntKind.i64 ((↑a : Int).tdiv (↑g.fst : Int))∧(↑g.fst : Int) ≠ (0 : Int)∧inRange IntKind.i64 ((↑d : Int).tdiv (↑g.fst : Int))∧True∧(True∧True∧(↑a : Int).tdiv (↑g.fst : Int) = (↑(a / a.gcd d) : Int))∧True∧(↑d : Int).tdiv (↑g.fst : Int) = (↑(d / a.gcd d) : Int))) (by kernel_rfl) ?_
 simp only [true_and, and_true, inR, Prod.exists, Prod.forall, and_assoc, exists_and_left, exists_eq_left', exists_eq_left, forall_eq, exists_const, forall_const, loopN, loopM, fa2, fas, fas2, dup1, dup2, dup3, dup4, ite_true, exhs, exhn, exhz, exho, exA, ex1, ex2, ex3, ex4, ex5, beqI, bneI, decide_true, Bool.true_and, decide_eq_true_eq, decide_eq_false_iff_not, ne_eq, Decidable.not_not]
 obtain ⟨h0, h1, h2⟩ : 0 < d ∧ a ≤ 1099511627776 ∧ d ≤ 1099511627776 := h
 have g0 : 0 < Nat.gcd a d := Nat.gcd_pos_of_pos_right _ h0
 refine ⟨h1, h2, fun x y ⟨hg, hx, hy⟩ => ⟨fun hne => ?_, fun he => ?_⟩⟩
 · have hlt := Nat.mod_lt x (show 0 < y by omega)
   exact ⟨hne, y, x % y, by rw [gcd_step]; exact hg, hy, by omega, hlt, rfl, tmod_nat x y⟩
 · obtain rfl : y = 0 := by omega
   rw [Nat.gcd_zero_right] at hg
   subst hg
   have d1 := Nat.div_le_self a (Nat.gcd a d)
   have d2 := Nat.div_le_self d (Nat.gcd a d)
   rw [tdiv_nat, tdiv_nat]
   generalize a / Nat.gcd a d = p at d1 ⊢
   generalize d / Nat.gcd a d = q at d2 ⊢
   exact ⟨by omega, by omega, by omega, by omega, by omega, by omega, rfl, rfl⟩
def TB : List (Nat × Sig) := (59, sRed) :: (79, sOdd) :: TA
theorem TB_ok : SigsOk Try.prog E0 TB := ((TA_ok.cons (runs 79 (by kernel_rfl)) fun x _ => q79 x).cons (runs 59 (by kernel_rfl)) q59)
def V3 : List (Nat × ESpec) := (78, eFound) :: V2
theorem V3_ok : EvensOk Try.prog E0 V3 := V2_ok.cons r78
def ePlan : ESpec where
 γ := Nat × Int × Int
 ok g := g.1 ≤ 1000000
 arg g := [lotTV g.1, twoTV g.2.1 g.2.2]
 hp _ := [(.argc 0 1, .mpI MC Inv)]
 res g := [.c (.bool (planOk g.1 g.2.1 g.2.2))]
theorem r35n (n : Nat) (g : Nat × Int × Int) (h : ePlan.ok g) (ms : Nat → List Int → Option Int) (hm : ∀ j T I, canonHp (ePlan.hp g) j = some (.mpI T I) → ∀ ks x, ms j ks = some x → I ks x) : inlBody (E0.all TB ((35, { ePlan with ok := fun g => ePlan.ok g ∧ 0 < n }) :: V3) [] [] [] (wkAt 35)) (vc (E0.all TB ((35, { ePlan with ok := fun g => ePlan.ok g ∧ 0 < n }) :: V3) [] [] [] (wkAt 35)) 6) 35 (ePlan.arg g) (openHp ms (canonHp (ePlan.hp g))) (lenR (ePlan.hp g)) [] (fun v hp _ _ => evenFit ePlan g v hp) := by
 refine of_red (q := (True∧∀ (ks : List Int) (x : Int), ms (0 : Nat) ks = some x→x = cI (ks.getD (0 : Nat) (0 : Int)) (ks.getD (1 : Nat) (0 : Int)))∧∃ (x : Int × Int × Int), ((True∧g.snd.fst = x.fst)∧(True∧(0 : Int) = x.snd.fst)∧(True∧(↑g.fst : Int) = x.snd.snd)∧True)∧True∧(within x.fst x.snd.fst x.snd.snd = true→∃ (x : Int × Int × Int), ((True∧g.snd.snd = x.fst)∧(True∧(0 : Int) = x.snd.fst)∧(True∧g.snd.fst = x.snd.snd)∧True)∧True∧((True∧∀ (ks : List Int) (x : Int), x = cI (ks.getD (0 : Nat) (0 : Int)) (ks.getD (1 : Nat) (0 : Int))→x = cI (ks.getD (0 : Nat) (0 : Int)) (ks.getD (1 : Nat) (0 : Int)))∧True)∧True∧within x.fst x.snd.fst x.snd.snd = planOk (↑g.fst : Int) g.snd.fst g.snd.snd)∧(within x.fst x.snd.fst x.snd.snd = false→((True∧∀ (ks : List Int) (x : Int), x = cI (ks.getD (0 : Nat) (0 : Int)) (ks.getD (1 : Nat) (0 : Int))→x = cI (ks.getD (0 : Nat) (0 : Int)) (ks.getD (1 : Nat) (0 : Int)))∧True)∧True∧planOk (↑g.fst : Int) g.snd.fst g.snd.snd = false)) (by kernel_rfl) ?_
 have hI : ∀ ks x, ms 0 ks = some x → x = cI (ks.getD 0 0) (ks.getD 1 0) := hm 0 MC Inv rfl
 obtain ⟨N, o, a⟩ := g
 simp only [true_and, and_true, inR, Prod.exists, Prod.forall, and_assoc, exists_and_left, exists_eq_left', exists_eq_left, forall_eq, exists_const, forall_const, loopN, loopM, fa2, fas, fas2, dup1, dup2, dup3, dup4, ite_true, exhs, exhn, exhz, exho, exA, ex1, ex2, ex3, ex4, ex5, beqI, bneI, decide_true, Bool.true_and, decide_eq_true_eq, decide_eq_false_iff_not, ne_eq, Decidable.not_not]
 unfold planOk
 exact ⟨hI, fun h => by rw [h, Bool.true_and], fun h => by rw [h, Bool.false_and]⟩
theorem r35 : ∀ g, ePlan.ok g → SemK Try.prog E0 35 ePlan.toK g :=
 even_at E0_ok TB TB_ok V3 V3_ok runs ePlan (fun _ => []) (fun _ => []) [] (fun _ => wkAt 35) (fun _ => 0) (fun n g hg _ ms hm => r35n n g hg ms hm)
def eRule : ESpec where
 γ := Nat × (Nat → Int)
 ok g := g.1 ≤ 1000000
 arg g := [lotTV g.1, arrTV 6 g.2]
 hp _ := [(.argc 0 1, .mpI MC Inv)]
 res g := [.c (.bool (ruleOk g.1 g.2))]
theorem r60n (n : Nat) (g : Nat × (Nat → Int)) (h : eRule.ok g) (ms : Nat → List Int → Option Int) (hm : ∀ j T I, canonHp (eRule.hp g) j = some (.mpI T I) → ∀ ks x, ms j ks = some x → I ks x) : inlBody (E0.all TB ((60, { eRule with ok := fun g => eRule.ok g ∧ 0 < n }) :: V3) [] [] [] (wkAt 60)) (vc (E0.all TB ((60, { eRule with ok := fun g => eRule.ok g ∧ 0 < n }) :: V3) [] [] [] (wkAt 60)) 6) 60 (eRule.arg g) (openHp ms (canonHp (eRule.hp g))) (lenR (eRule.hp g)) [] (fun v hp _ _ => evenFit eRule g v hp) := by
 refine of_red (q := (True∧∀ (ks : List Int) (x : Int), ms (0 : Nat) ks = some x→x = cI (ks.getD (0 : Nat) (0 : Int)) (ks.getD (1 : Nat) (0 : Int)))∧(decide ((0 : Int)≤g.snd (0 : Nat)) = true→(decide (g.snd (0 : Nat) < g.snd ((0 : Nat) + (nat_lit 2 + (1 : Nat)))) = true→(decide (g.snd ((0 : Nat) + (nat_lit 2 + (1 : Nat)))≤(↑g.fst : Int)) = true→∃ (x : Int × Int), ((True∧(True∧True∧g.snd (nat_lit 0 + (nat_lit 0 + (1 : Nat))) = x.fst)∧True∧g.snd (nat_lit 1 + (nat_lit 0 + (1 : Nat))) = x.snd)∧True)∧True∧(oddsOk x.fst x.snd = true→∃ (x : Int × Int), ((True∧(True∧True∧g.snd (nat_lit 0 + (nat_lit 3 + (1 : Nat))) = x.fst)∧True∧g.snd (nat_lit 1 + (nat_lit 3 + (1 : Nat))) = x.snd)∧True)∧True∧((True∧∀ (ks : List Int) (x : Int), x = cI (ks.getD (0 : Nat) (0 : Int)) (ks.getD (1 : Nat) (0 : Int))→x = cI (ks.getD (0 : Nat) (0 : Int)) (ks.getD (1 : Nat) (0 : Int)))∧True)∧True∧oddsOk x.fst x.snd = ruleOk (↑g.fst : Int) g.snd)∧(oddsOk x.fst x.snd = false→((True∧∀ (ks : List Int) (x : Int), x = cI (ks.getD (0 : Nat) (0 : Int)) (ks.getD (1 : Nat) (0 : Int))→x = cI (ks.getD (0 : Nat) (0 : Int)) (ks.getD (1 : Nat) (0 : Int)))∧True)∧True∧ruleOk (↑g.fst : Int) g.snd = false))∧(decide (g.snd ((0 : Nat) + (nat_lit 2 + (1 : Nat)))≤(↑g.fst : Int)) = false→((True∧∀ (ks : List Int) (x : Int), x = cI (ks.getD (0 : Nat) (0 : Int)) (ks.getD (1 : Nat) (0 : Int))→x = cI (ks.getD (0 : Nat) (0 : Int)) (ks.getD (1 : Nat) (0 : Int)))∧True)∧True∧ruleOk (↑g.fst : Int) g.snd = false))∧(decide (g.snd (0 : Nat) < g.snd ((0 : Nat) + (nat_lit 2 + (1 : Nat)))) = false→((True∧∀ (ks : List Int) (x : Int), x = cI (ks.getD (0 : Nat) (0 : Int)) (ks.getD (1 : Nat) (0 : Int))→x = cI (ks.getD (0 : Nat) (0 : Int)) (ks.getD (1 : Nat) (0 : Int)))∧True)∧True∧ruleOk (↑g.fst : Int) g.snd = false))∧(decide ((0 : Int)≤g.snd (0 : Nat)) = false→((True∧∀ (ks : List Int) (x : Int), x = cI (ks.getD (0 : Nat) (0 : Int)) (ks.getD (1 : Nat) (0 : Int))→x = cI (ks.getD (0 : Nat) (0 : Int)) (ks.getD (1 : Nat) (0 : Int)))∧True)∧True∧ruleOk (↑g.fst : Int) g.snd = false)) (by kernel_rfl) ?_
 have hI : ∀ ks x, ms 0 ks = some x → x = cI (ks.getD 0 0) (ks.getD 1 0) := hm 0 MC Inv rfl
 obtain ⟨N, r⟩ := g
 simp only [true_and, and_true, inR, Prod.exists, Prod.forall, and_assoc, exists_and_left, exists_eq_left', exists_eq_left, forall_eq, exists_const, forall_const, loopN, loopM, fa2, fas, fas2, dup1, dup2, dup3, dup4, ite_true, exhs, exhn, exhz, exho, exA, ex1, ex2, ex3, ex4, ex5, beqI, bneI, decide_true, Bool.true_and, decide_eq_true_eq, decide_eq_false_iff_not, ne_eq, Decidable.not_not]
 have e : ruleOk N r = (decide (0 ≤ r 0) && decide (r 0 < r 3) && decide (r 3 ≤ (N : Int)) && oddsOk (r 1) (r 2) && oddsOk (r 4) (r 5)) := rfl
 refine ⟨hI, fun a => ⟨fun b => ⟨fun c => ⟨fun d => ?_, fun d => ?_⟩, fun c => ?_⟩, fun b => ?_⟩, fun a => ?_⟩ <;> rw [e]
 all_goals first | (simp_all; done) | (simp_all; intros; omega)
theorem r60 : ∀ g, eRule.ok g → SemK Try.prog E0 60 eRule.toK g :=
 even_at E0_ok TB TB_ok V3 V3_ok runs eRule (fun _ => []) (fun _ => []) [] (fun _ => wkAt 60) (fun _ => 0) (fun n g hg _ ms hm => r60n n g hg ms hm)
end Go.Proofs.Ytpigkgoooekcgaa
namespace Bm
open Go Go.Sx
def spanTV (a b : Int) : TV := .a 2 (fun j => .int .i64 (if j = 0 then a else b))
def spansCV (n : Nat) (s : Nat → Nat → Int) : CV := .vs 2 n (fun i j => .int .i64 (s i j))
def intsCV (n : Nat) (f : Nat → Int) : CV := .vs 1 n (fun i _ => .int .i64 (f i))
def ldBad (a b : Int) : Bool := decide (a < 0) || (decide (b < a) || decide (1000 < b))
def loadsOk (n : Nat) (s : Nat → Nat → Int) : Bool := within n 1 40 && allB n (fun i => !ldBad (s i 0) (s i 1))
def mxL (s : Nat → Nat → Int) : Nat → Int
 | 0 => s 0 0
 | k + 1 => imax (mxL s k) (s k 0)
def mnH (s : Nat → Nat → Int) : Nat → Int
 | 0 => s 0 1
 | k + 1 => imin (mnH s k) (s k 1)
def alikeB (n : Nat) (s : Nat → Nat → Int) : Bool := decide (mxL s n ≤ mnH s n)
def cutS (s : Nat → Nat → Int) (a : Nat) : Nat → Nat → Int := fun i j => s (i + a) j
def lastI (l : List Int) : Int := l.getD (l.length - 1) 0
def lotsL (s : Nat → Nat → Int) : Nat → List Int
 | 0 => [0]
 | i + 1 => if alikeB (i + 1 - (lastI (lotsL s i)).toNat) (cutS s (lastI (lotsL s i)).toNat) then lotsL s i else lotsL s i ++ [(i : Int)]
def toI (n m : Nat) (f : Nat → Int) (i : Nat) : Int := if i + 1 < m then f (i + 1) else n
def lotOk (n : Nat) (s : Nat → Nat → Int) (m : Nat) (f : Nat → Int) (i : Nat) : Bool := within (toI n m f i) (f i + 1) n && alikeB ((toI n m f i).toNat - (f i).toNat) (cutS s (f i).toNat)
def areLots (n : Nat) (s : Nat → Nat → Int) (m : Nat) (f : Nat → Int) : Bool := decide (0 < m) && decide (f 0 = 0) && allB m (lotOk n s m f)
theorem imax_ge {a b : Int} : a ≤ imax a b ∧ b ≤ imax a b := by unfold imax; split <;> omega
theorem imin_le {a b : Int} : imin a b ≤ a ∧ imin a b ≤ b := by unfold imin; split <;> omega
theorem imax_cases {a b : Int} : imax a b = a ∨ imax a b = b := by unfold imax; split <;> simp
theorem lots_len {s : Nat → Nat → Int} : ∀ {i : Nat}, 1 ≤ (lotsL s i).length ∧ (lotsL s i).length ≤ i + 1 ∧ (lotsL s i).getD 0 0 = 0
 | 0 => ⟨Nat.le_refl _, Nat.le_refl _, rfl⟩
 | i + 1 => by
   obtain ⟨a, b, c⟩ := lots_len (s := s) (i := i)
   unfold lotsL
   split
   · exact ⟨a, by omega, c⟩
   · refine ⟨by simp, by simp; omega, ?_⟩
     rw [List.getD_eq_getElem?_getD, List.getElem?_append_left (by omega), ← List.getD_eq_getElem?_getD]; exact c
theorem lastI_snoc {l : List Int} {a : Int} : lastI (l ++ [a]) = a := by
 unfold lastI; simp
theorem getD_snoc_lt {l : List Int} {a : Int} {k : Nat} (h : k < l.length) : (l ++ [a]).getD k 0 = l.getD k 0 := by
 rw [List.getD_eq_getElem?_getD, List.getElem?_append_left h, ← List.getD_eq_getElem?_getD]
theorem getD_snoc_eq {l : List Int} {a : Int} : (l ++ [a]).getD l.length 0 = a := by simp
structure LotsTo (s : Nat → Nat → Int) (l : List Int) (i : Nat) : Prop where
 one : 1 ≤ l.length
 fst : l.getD 0 0 = 0
 nn : ∀ k, k < l.length → 0 ≤ l.getD k 0
 lt : 0 < i → lastI l < i
 z : i = 0 → lastI l = 0
 up : ∀ k, k + 1 < l.length → l.getD k 0 < l.getD (k + 1) 0
 al : ∀ k, k + 1 < l.length → alikeB ((l.getD (k + 1) 0).toNat - (l.getD k 0).toNat) (cutS s (l.getD k 0).toNat) = true
 las : 0 < i → alikeB (i - (lastI l).toNat) (cutS s (lastI l).toNat) = true
theorem alike_one {s : Nat → Nat → Int} (h : s 0 0 ≤ s 0 1) : alikeB 1 s = true := by
 unfold alikeB mxL mnH imax imin mxL mnH
 exact decide_eq_true (by split <;> split <;> omega)
theorem lots_to {s : Nat → Nat → Int} : ∀ {i : Nat}, (∀ k, k < i → s k 0 ≤ s k 1) → LotsTo s (lotsL s i) i
 | 0, _ => ⟨Nat.le_refl _, rfl, fun k hk => by have : k = 0 := by (simp [lotsL] at hk; exact hk)
                                               subst this; exact Int.le_refl 0, fun h => absurd h (by decide), fun _ => rfl, fun k hk => by simp [lotsL] at hk, fun k hk => by simp [lotsL] at hk, fun h => absurd h (by decide)⟩
 | i + 1, hs => by
   have H := lots_to (s := s) (i := i) fun k hk => hs k (by omega)
   have hl : 0 ≤ lastI (lotsL s i) := H.nn _ (by have := H.one; omega)
   have hlt : lastI (lotsL s i) < i + 1 := by
     rcases Nat.eq_zero_or_pos i with h | h
     · subst h; rw [H.z rfl]; decide
     · have := H.lt h; omega
   by_cases c : alikeB (i + 1 - (lastI (lotsL s i)).toNat) (cutS s (lastI (lotsL s i)).toNat) = true
   · have e : lotsL s (i + 1) = lotsL s i := by rw [lotsL, if_pos c]
     rw [e]
     exact ⟨H.one, H.fst, H.nn, fun _ => by omega, fun h => absurd h (by omega), H.up, H.al, fun _ => c⟩
   · have e : lotsL s (i + 1) = lotsL s i ++ [(i : Int)] := by rw [lotsL, if_neg c]
     have hi : 0 < i := by
       rcases Nat.eq_zero_or_pos i with h | h
       · exfalso
         subst h
         rw [H.z rfl] at c
         exact c (alike_one (hs 0 (by omega)))
       · exact h
     have hlast : (lotsL s i).getD ((lotsL s i).length - 1) 0 = lastI (lotsL s i) := rfl
     have h1 := H.one
     rw [e]
     refine ⟨by simp, by rw [getD_snoc_lt (by omega)]; exact H.fst, fun k hk => ?_, fun _ => by rw [lastI_snoc]; omega, fun h => absurd h (by omega), fun k hk => ?_, fun k hk => ?_, fun _ => ?_⟩
     · by_cases ck : k < (lotsL s i).length
       · rw [getD_snoc_lt ck]; exact H.nn k ck
       · obtain rfl : k = (lotsL s i).length := by simp at hk; omega
         rw [getD_snoc_eq]; omega
     · simp only [List.length_append, List.length_cons, List.length_nil] at hk
       by_cases ck : k + 1 < (lotsL s i).length
       · rw [getD_snoc_lt ck, getD_snoc_lt (by omega)]; exact H.up k ck
       · have ek : k + 1 = (lotsL s i).length := by omega
         rw [getD_snoc_lt (a := (i : Int)) (show k < (lotsL s i).length by omega), ek, getD_snoc_eq, show k = (lotsL s i).length - 1 by omega, hlast]
         exact H.lt hi
     · simp only [List.length_append, List.length_cons, List.length_nil] at hk
       by_cases ck : k + 1 < (lotsL s i).length
       · rw [getD_snoc_lt ck, getD_snoc_lt (by omega)]; exact H.al k ck
       · have ek : k + 1 = (lotsL s i).length := by omega
         rw [getD_snoc_lt (a := (i : Int)) (show k < (lotsL s i).length by omega), ek, getD_snoc_eq, show k = (lotsL s i).length - 1 by omega, hlast]
         exact H.las hi
     · rw [lastI_snoc]
       have e2 : i + 1 - ((i : Int)).toNat = 1 := by omega
       rw [e2]
       refine alike_one ?_
       show s (0 + ((i : Int)).toNat) 0 ≤ s (0 + ((i : Int)).toNat) 1
       rw [show 0 + ((i : Int)).toNat = i by omega]
       exact hs i (by omega)
theorem loads_iff {n : Nat} {s : Nat → Nat → Int} (h : loadsOk n s = true) : (1 ≤ n ∧ n ≤ 40) ∧ ∀ k, k < n → 0 ≤ s k 0 ∧ s k 0 ≤ s k 1 ∧ s k 1 ≤ 1000 := by
 unfold loadsOk at h
 rw [Bool.and_eq_true, within_iff, allB_iff] at h
 refine ⟨by omega, fun k hk => ?_⟩
 have := h.2 k hk
 simp only [ldBad, Bool.not_eq_true', Bool.or_eq_false_iff, decide_eq_false_iff_not] at this
 omega
end Bm
namespace Go.Proofs.Ytpigkgoooekcgaa
open Go Go.Sx Bm
set_option maxRecDepth 100000
theorem q30 (x : sIn.α) : CallQ Try.prog E0 30 (sIn.arg x) (sIn.res x) := by
 refine bare_all E0_ok [] SigsOk.nil [] EvensOk.nil runs [] [] [] [] (fuel := 5) ?_
 refine of_red (q := (decide (x.snd.fst≤x.fst) = true→True∧decide (x.fst≤x.snd.snd) = within x.fst x.snd.fst x.snd.snd)∧(decide (x.snd.fst≤x.fst) = false→True∧within x.fst x.snd.fst x.snd.snd = false)) (by kernel_rfl) ?_
 simp [within]
 try omega
theorem allB_no {n i : Nat} {p : Nat → Bool} (hi : i < n) (h : p i = false) : allB n p = false := by
 cases e : allB n p with
 | false => rfl
 | true => have := allB_iff.1 e i hi; rw [h] at this; cases this
def sBad : Sig := ⟨Int × Int, fun x => [spanTV x.1 x.2], fun _ => True, fun x => [.v (.c (.bool (ldBad x.1 x.2)))]⟩
theorem q55 (x : sBad.α) : CallQ Try.prog E0 55 (sBad.arg x) (sBad.res x) := by
 refine bare_say E0_ok [] SigsOk.nil [] EvensOk.nil runs {} (fuel := 5) ?_
 refine of_red (q := (decide (x.fst < (0 : Int)) = true→True∧ldBad x.fst x.snd = true)∧(decide (x.fst < (0 : Int)) = false→(decide (x.snd < x.fst) = true→True∧ldBad x.fst x.snd = true)∧(decide (x.snd < x.fst) = false→True∧decide ((1000 : Int) < x.snd) = ldBad x.fst x.snd))) (by kernel_rfl) ?_
 simp only [true_and, and_true, inR, Prod.exists, Prod.forall, and_assoc, exists_and_left, exists_eq_left', exists_eq_left, forall_eq, exists_const, forall_const, loopN, loopM, fa2, fas, fas2, dup1, dup2, dup3, dup4, ite_true, exhs, exhn, exhz, exho, exA, ex1, ex2, ex3, ex4, ex5, beqI, bneI, decide_true, Bool.true_and, decide_eq_true_eq, decide_eq_false_iff_not, ne_eq, Decidable.not_not]
 unfold ldBad
 exact ⟨fun a => by simp [a], fun a => ⟨fun b => by simp [b], fun b => by simp [a, b]⟩⟩
def TH0 : List (Nat × Sig) := (55, sBad) :: (30, sIn) :: TA
theorem TH0_ok : SigsOk Try.prog E0 TH0 := (TA_ok.cons (runs 30 (by kernel_rfl)) fun x _ => q30 x).cons (runs 55 (by kernel_rfl)) fun x _ => q55 x
structure SpsIn where
 n : Nat
 s : Nat → Nat → Int
def sLoads : Sig := ⟨SpsIn, fun x => [.c (spansCV x.n x.s)], fun x => x.n < 4611686018427387904, fun x => [.v (.c (.bool (loadsOk x.n x.s)))]⟩
def aLd (n : Nat) (s : Nat → Nat → Int) : Ann := { G := Nat, ok := fun _ i => i ≤ n ∧ allB i (fun k => !ldBad (s k 0) (s k 1)) = true, dom := fun _ => [], tm := fun _ i => [(8, .t (intC i))], hp := fun _ _ => [], mu := fun _ i => n - i }
theorem q26 (x : sLoads.α) (h : sLoads.pre x) : CallQ Try.prog E0 26 (sLoads.arg x) (sLoads.res x) := by
 obtain ⟨n, s⟩ := x
 refine bare_say E0_ok TH0 TH0_ok [] EvensOk.nil runs { l := [(77, 2, aLd n s)] } (fuel := 7) ?_
 refine of_red (q := ∃ (x : Int × Int × Int), ((True∧(↑n : Int) = x.fst)∧(True∧(1 : Int) = x.snd.fst)∧(True∧(40 : Int) = x.snd.snd)∧True)∧True∧(within x.fst x.snd.fst x.snd.snd = true→(∃ (g : Nat), (g≤n∧(allB g fun (k : Nat) => !ldBad (s k (0 : Nat)) (s k (1 : Nat))) = true)∧True∧((True∧(0 : Int) = (↑g : Int))∧True)∧True)∧∀ (g : Nat), g≤n∧(allB g fun (k : Nat) => !ldBad (s k (0 : Nat)) (s k (1 : Nat))) = true→(decide ((↑g : Int) < (↑n : Int)) = true→(0 : Int)≤(↑g : Int)∧(↑g : Int) < (↑n : Int)∧∃ (x : Int × Int), ((True∧(True∧True∧s g 0 = x.fst)∧True∧s g 1 = x.snd)∧True)∧True∧(ldBad x.fst x.snd = true→True∧(!decide ((0 : Int)≤(↑g : Int))) = loadsOk n s)∧(ldBad x.fst x.snd = false→inRange IntKind.i64 ((↑g : Int) + (1 : Int))∧∃ (g' : Nat), (g'≤n∧(allB g' fun (k : Nat) => !ldBad (s k (0 : Nat)) (s k (1 : Nat))) = true)∧n - g' < n - g∧True∧((True∧(↑g : Int) + (1 : Int) = (↑g' : Int))∧True)∧True))∧(decide ((↑g : Int) < (↑n : Int)) = false→True∧(!decide ((0 : Int)≤(-1 : Int))) = loadsOk n s))∧(within x.fst x.snd.fst x.snd.snd = false→True∧loadsOk n s = false)) (by kernel_rfl) ?_
 simp only [true_and, and_true, inR, Prod.exists, Prod.forall, and_assoc, exists_and_left, exists_eq_left', exists_eq_left, forall_eq, exists_const, forall_const, loopN, loopM, fa2, fas, fas2, dup1, dup2, dup3, dup4, ite_true, exhs, exhn, exhz, exho, exA, ex1, ex2, ex3, ex4, ex5, beqI, bneI, decide_true, Bool.true_and, decide_eq_true_eq, decide_eq_false_iff_not, ne_eq, Decidable.not_not]
 have h : n < 4611686018427387904 := h
 refine ⟨fun w => ⟨Nat.zero_le _, rfl, fun g hg hb => ⟨by omega, by omega, fun h => ?_, fun h => ⟨by omega, by omega, by omega, ?_, by omega⟩⟩, fun hb => ?_⟩, fun w => ?_⟩
 · have e : allB n (fun k => !ldBad (s k 0) (s k 1)) = false := allB_no hg (by show (!ldBad (s g 0) (s g 1)) = false; rw [h]; rfl)
   unfold loadsOk
   rw [e, Bool.and_false, decide_eq_true (by omega)]; rfl
 · show (allB g (fun k => !ldBad (s k 0) (s k 1)) && !ldBad (s g 0) (s g 1)) = true
   rw [hb, h]; rfl
 · unfold loadsOk
   rw [w, hb]; rfl
 · unfold loadsOk
   rw [w]; rfl
def sAl : Sig := ⟨SpsIn, fun x => [.c (spansCV x.n x.s)], fun x => 0 < x.n ∧ x.n < 4611686018427387904, fun x => [.v (.c (.bool (alikeB x.n x.s)))]⟩
def aAl (n : Nat) (s : Nat → Nat → Int) : Ann := { G := Nat, ok := fun _ i => i ≤ n, dom := fun st => [osN (st.tm 3)], tm := fun _ i => [(11, .t (intC i))], hp := fun st i => [(osN (st.tm 3), .self, some (.box 2 (fun j => .int .i64 (if j = 0 then mxL s i else mnH s i))))], mu := fun _ i => n - i }
theorem q27 (x : sAl.α) (h : sAl.pre x) : CallQ Try.prog E0 27 (sAl.arg x) (sAl.res x) := by
 obtain ⟨n, s⟩ := x
 refine bare_say E0_ok TH0 TH0_ok [] EvensOk.nil runs { l := [(27, 3, aAl n s)] } (fuel := 5) ?_
 refine of_red (q := (0 : Int)≤(0 : Int)∧(0 : Int) < (↑n : Int)∧(∃ (g : Nat), g≤n∧True∧((True∧(0 : Int) = (↑g : Int))∧True)∧(True∧(True∧True∧s (0 : Nat) 0 = mxL s g)∧True∧s (0 : Nat) 1 = mnH s g)∧True)∧∀ (g : Nat), g≤n→(decide ((↑g : Int) < (↑n : Int)) = true→(0 : Int)≤(↑g : Int)∧(↑g : Int) < (↑n : Int)∧inRange IntKind.i64 ((↑g : Int) + (1 : Int))∧∃ (g' : Nat), g'≤n∧n - g' < n - g∧True∧((True∧(↑g : Int) + (1 : Int) = (↑g' : Int))∧True)∧(True∧(True∧True∧imax (mxL s g) (s g (0 : Nat)) = mxL s g')∧True∧imin (mnH s g) (s g ((0 : Nat) + (nat_lit 0 + (1 : Nat)))) = mnH s g')∧True)∧(decide ((↑g : Int) < (↑n : Int)) = false→True∧decide (mxL s g≤mnH s g) = alikeB n s)) (by kernel_rfl) ?_
 simp only [true_and, and_true, inR, Prod.exists, Prod.forall, and_assoc, exists_and_left, exists_eq_left', exists_eq_left, forall_eq, exists_const, forall_const, loopN, loopM, fa2, fas, fas2, dup1, dup2, dup3, dup4, ite_true, exhs, exhn, exhz, exho, exA, ex1, ex2, ex3, ex4, ex5, beqI, bneI, decide_true, Bool.true_and, decide_eq_true_eq, decide_eq_false_iff_not, ne_eq, Decidable.not_not]
 obtain ⟨h0, h⟩ : 0 < n ∧ n < 4611686018427387904 := h
 exact ⟨Int.le_refl 0, by omega, ⟨0, Nat.zero_le _, rfl, rfl, rfl⟩, fun g hg => ⟨by omega, by omega, by omega, by omega, g + 1, by omega, by omega, by omega, rfl, rfl⟩, rfl⟩
def TH1 : List (Nat × Sig) := (27, sAl) :: (26, sLoads) :: TH0
theorem TH1_ok : SigsOk Try.prog E0 TH1 := (TH0_ok.cons (runs 26 (by kernel_rfl)) q26).cons (runs 27 (by kernel_rfl)) q27
def lotsN (n : Nat) (s : Nat → Nat → Int) : Nat := if loadsOk n s then (lotsL s n).length else 0
def sLots : Sig := ⟨SpsIn, fun x => [.c (spansCV x.n x.s)], fun x => x.n < 4611686018427387904, fun x => [.v (.c (intsCV (lotsN x.n x.s) (fun k => (lotsL x.s x.n).getD k 0))), .v (intC (if loadsOk x.n x.s then 0 else 43))]⟩
def aLots (n : Nat) (s : Nat → Nat → Int) : Ann := { G := Nat, ok := fun _ i => i ≤ n, dom := fun st => [osN (st.tm 4), st.nx], tm := fun st i => [(4, .t (.c (.os st.nx 1 (lotsL s i).length))), (12, .t (intC i))], hp := fun st i => [(osN (st.tm 4), .self, none), (st.nx, .slot 4, some (.row 3 1 (lotsL s i).length (fun k _ => .int .i64 ((lotsL s i).getD k 0))))], mu := fun _ i => n - i }
theorem exSp {n : Nat} {s : Nat → Nat → Int} {R : SpsIn → Prop} (h : R ⟨n, s⟩) : ∃ x : SpsIn, n = x.n ∧ (∀ i, i < n → s i 0 = x.s i 0 ∧ s i 1 = x.s i 1) ∧ R x := ⟨⟨n, s⟩, rfl, fun _ _ => ⟨rfl, rfl⟩, h⟩
theorem exCut {n a : Nat} {s : Nat → Nat → Int} {R : SpsIn → Prop} (h : R ⟨n, cutS s a⟩) : ∃ x : SpsIn, n = x.n ∧ (∀ i, i < n → s (i + a) 0 = x.s i 0 ∧ s (i + a) 1 = x.s i 1) ∧ R x := ⟨⟨n, cutS s a⟩, rfl, fun _ _ => ⟨rfl, rfl⟩, h⟩
theorem q6 (x : sLots.α) (h : sLots.pre x) : CallQ Try.prog E0 6 (sLots.arg x) (sLots.res x) := by
 obtain ⟨n, s⟩ := x
 refine bare_say E0_ok TH1 TH1_ok [] EvensOk.nil runs { l := [(6, 5, aLots n s)] } (fuel := 5) ?_
 refine of_red (q := ∃ (x : SpsIn), ((True∧True∧n = x.n∧∀ (i : Nat), i < n→(True∧s i 0 = x.s i 0)∧s i 1 = x.s i 1)∧True)∧x.n < (4611686018427387904 : Nat)∧((!loadsOk x.n x.s) = true→(True∧lotsN n s = (0 : Nat))∧(True∧(43 : Int) = if loadsOk n s = true then (0 : Int) else (43 : Int))∧True)∧((!loadsOk x.n x.s) = false→(∃ (g : Nat), g≤n∧True∧((True∧True∧(1 : Nat) = (lotsL s g).length)∧(True∧(0 : Int) = (↑g : Int))∧True)∧(True∧True∧(1 : Nat) = (lotsL s g).length∧∀ (i : Nat), i < (1 : Nat)→True∧(if i = (0 : Nat) then (0 : Int) else (0 : Int)) = (lotsL s g).getD i (0 : Int))∧True)∧∀ (g : Nat), g≤n→(decide ((↑g : Int) < (↑n : Int)) = true→inRange IntKind.i64 ((↑(lotsL s g).length : Int) - (1 : Int))∧(0 : Int)≤(↑(lotsL s g).length : Int) - (1 : Int)∧(↑(lotsL s g).length : Int) - (1 : Int) < (↑(lotsL s g).length : Int)∧inRange IntKind.i64 ((↑g : Int) + (1 : Int))∧(0 : Int)≤(lotsL s g).getD ((↑(lotsL s g).length : Int) - (1 : Int)).toNat (0 : Int)∧(lotsL s g).getD ((↑(lotsL s g).length : Int) - (1 : Int)).toNat (0 : Int)≤(↑g : Int) + (1 : Int)∧(↑g : Int) + (1 : Int)≤(↑n : Int)∧∃ (x : SpsIn), ((True∧True∧((↑g : Int) + (1 : Int)).toNat - ((lotsL s g).getD ((↑(lotsL s g).length : Int) - (1 : Int)).toNat (0 : Int)).toNat = x.n∧∀ (i : Nat), i < ((↑g : Int) + (1 : Int)).toNat - ((lotsL s g).getD ((↑(lotsL s g).length : Int) - (1 : Int)).toNat (0 : Int)).toNat→(True∧s (i + ((lotsL s g).getD ((↑(lotsL s g).length : Int) - (1 : Int)).toNat (0 : Int)).toNat) 0 = x.s i 0)∧s (i + ((lotsL s g).getD ((↑(lotsL s g).length : Int) - (1 : Int)).toNat (0 : Int)).toNat) 1 = x.s i 1)∧True)∧((0 : Nat) < x.n∧x.n < (4611686018427387904 : Nat))∧((!alikeB x.n x.s) = true→((lotsL s g).length + (1 : Nat)) * (8 : Nat)≤(140737488355328 : Nat)∧(lotsL s g).length + (1 : Nat) < (4611686018427387904 : Nat)∧inRange IntKind.i64 ((↑g : Int) + (1 : Int))∧∃ (g' : Nat), g'≤n∧n - g' < n - g∧True∧((True∧True∧(lotsL s g).length + (1 : Nat) = (lotsL s g').length)∧(True∧(↑g : Int) + (1 : Int) = (↑g' : Int))∧True)∧(True∧True∧(lotsL s g).length + (1 : Nat) = (lotsL s g').length∧∀ (i : Nat), i < (lotsL s g).length + (1 : Nat)→True∧(if i < (lotsL s g).length then (lotsL s g).getD i (0 : Int) else if i - (lotsL s g).length = (0 : Nat) then (↑g : Int) else (0 : Int)) = (lotsL s g').getD i (0 : Int))∧True)∧((!alikeB x.n x.s) = false→inRange IntKind.i64 ((↑g : Int) + (1 : Int))∧∃ (g' : Nat), g'≤n∧n - g' < n - g∧True∧((True∧True∧(lotsL s g).length = (lotsL s g').length)∧(True∧(↑g : Int) + (1 : Int) = (↑g' : Int))∧True)∧(True∧True∧(lotsL s g).length = (lotsL s g').length∧∀ (i : Nat), i < (lotsL s g).length→True∧(lotsL s g).getD i (0 : Int) = (lotsL s g').getD i (0 : Int))∧True))∧(decide ((↑g : Int) < (↑n : Int)) = false→(0 : Int)≤(0 : Int)∧(0 : Int)≤(↑(lotsL s g).length : Int)∧(↑(lotsL s g).length : Int)≤(↑(lotsL s g).length : Int)∧(↑(lotsL s g).length : Int)≤(↑(lotsL s g).length : Int)∧(True∧True∧(lotsL s g).length - (0 : Nat) = lotsN n s∧∀ (i : Nat), i < (lotsL s g).length - (0 : Nat)→True∧(lotsL s g).getD i (0 : Int) = (lotsL s n).getD i (0 : Int))∧(True∧(0 : Int) = if loadsOk n s = true then (0 : Int) else (43 : Int))∧True))) (by kernel_rfl) ?_
 simp only [true_and, and_true, inR, Prod.exists, Prod.forall, and_assoc, exists_and_left, exists_eq_left', exists_eq_left, forall_eq, exists_const, forall_const, loopN, loopM, fa2, fas, fas2, dup1, dup2, dup3, dup4, ite_true, exhs, exhn, exhz, exho, exA, ex1, ex2, ex3, ex4, ex5, beqI, bneI, decide_true, Bool.true_and, decide_eq_true_eq, decide_eq_false_iff_not, ne_eq, Decidable.not_not]
 have h : n < 4611686018427387904 := h
 refine exSp ⟨h, fun hb => ?_, fun hb => ?_⟩
 · have hb : loadsOk n s = false := by simpa using hb
   unfold lotsN
   rw [hb]
   exact ⟨rfl, rfl⟩
 have hb : loadsOk n s = true := by simpa using hb
 obtain ⟨⟨n1, n2⟩, hs⟩ := loads_iff hb
 refine ⟨⟨0, Nat.zero_le _, rfl, rfl, rfl, fun i hi => ?_⟩, fun g hg => ?_, Int.le_refl 0, by omega, Int.le_refl _, Int.le_refl _, ?_, fun _ _ => trivial, ?_⟩
 · obtain rfl : i = 0 := by omega
   rfl
 · have H := lots_to (s := s) (i := g) fun k hk => (hs k (by omega)).2.1
   obtain ⟨l1, l2, l3⟩ := lots_len (s := s) (i := g)
   have e : (((lotsL s g).length : Int) - 1).toNat = (lotsL s g).length - 1 := by omega
   have hlast : (lotsL s g).getD ((lotsL s g).length - 1) 0 = lastI (lotsL s g) := rfl
   have la0 : 0 ≤ lastI (lotsL s g) := H.nn _ (by omega)
   have la1 : lastI (lotsL s g) ≤ g := by
     rcases Nat.eq_zero_or_pos g with h0 | h0
     · rw [H.z h0]; omega
     · have := H.lt h0; omega
   rw [e, hlast, show ((g : Int) + 1).toNat = g + 1 by omega]
   refine ⟨by omega, by omega, by omega, by omega, by omega, by omega, la0, by omega, by omega, exCut ⟨by show 0 < g + 1 - (lastI (lotsL s g)).toNat; omega, by show g + 1 - (lastI (lotsL s g)).toNat < _; omega, fun ha => ?_, fun ha => ?_⟩⟩
   · have ha : alikeB (g + 1 - (lastI (lotsL s g)).toNat) (cutS s (lastI (lotsL s g)).toNat) = false := by simpa using ha
     have e2 : lotsL s (g + 1) = lotsL s g ++ [(g : Int)] := by rw [lotsL, if_neg (by rw [ha]; decide)]
     refine ⟨by omega, by omega, by omega, by omega, g + 1, by omega, by omega, ?_, by omega, ?_, fun i hi => ?_⟩
     · rw [e2]; simp
     · rw [e2]; simp
     · rw [e2]
       by_cases c : i < (lotsL s g).length
       · rw [if_pos c, getD_snoc_lt c]
       · obtain rfl : i = (lotsL s g).length := by omega
         rw [if_neg c, getD_snoc_eq, if_pos (by omega)]
   · have ha : alikeB (g + 1 - (lastI (lotsL s g)).toNat) (cutS s (lastI (lotsL s g)).toNat) = true := by simpa using ha
     have e2 : lotsL s (g + 1) = lotsL s g := by rw [lotsL, if_pos ha]
     exact ⟨by omega, by omega, g + 1, by omega, by omega, by rw [e2], by omega, by rw [e2], fun i hi => by rw [e2]⟩
 · unfold lotsN
   rw [if_pos hb]; rfl
 · rw [if_pos hb]
structure AreIn where
 n : Nat
 s : Nat → Nat → Int
 m : Nat
 f : Nat → Int
def sAre : Sig := ⟨AreIn, fun x => [.c (spansCV x.n x.s), .c (intsCV x.m x.f)], fun x => x.n < 4611686018427387904 ∧ x.m < 4611686018427387904 ∧ ∀ k, k < x.m → 0 ≤ x.f k ∧ x.f k ≤ 1000, fun x => [.v (.c (.bool (loadsOk x.n x.s && areLots x.n x.s x.m x.f))), .v (intC (if loadsOk x.n x.s then 0 else 43))]⟩
def aAre (n : Nat) (s : Nat → Nat → Int) (m : Nat) (f : Nat → Int) : Ann := { G := Nat, ok := fun _ i => i ≤ m ∧ allB i (lotOk n s m f) = true, dom := fun _ => [], tm := fun _ i => [(23, .t (intC i))], hp := fun _ _ => [], mu := fun _ i => m - i }
theorem q8 (x : sAre.α) (h : sAre.pre x) : CallQ Try.prog E0 8 (sAre.arg x) (sAre.res x) := by
 obtain ⟨n, s, m, f⟩ := x
 refine bare_say E0_ok TH1 TH1_ok [] EvensOk.nil runs { l := [(8, 6, aAre n s m f)] } (fuel := 5) ?_
 refine of_red (q := ∃ (x : SpsIn), ((True∧True∧n = x.n∧∀ (i : Nat), i < n→(True∧s i 0 = x.s i 0)∧s i 1 = x.s i 1)∧True)∧x.n < (4611686018427387904 : Nat)∧((!loadsOk x.n x.s) = true→(True∧(loadsOk n s && areLots n s m f) = false)∧(True∧(43 : Int) = if loadsOk n s = true then (0 : Int) else (43 : Int))∧True)∧((!loadsOk x.n x.s) = false→(((↑m : Int) == (0 : Int)) = true→(True∧(loadsOk n s && areLots n s m f) = false)∧(True∧(0 : Int) = if loadsOk n s = true then (0 : Int) else (43 : Int))∧True)∧(((↑m : Int) == (0 : Int)) = false→(0 : Int)≤(0 : Int)∧(0 : Int) < (↑m : Int)∧((f (0 : Nat) != (0 : Int)) = true→(True∧(loadsOk n s && areLots n s m f) = false)∧(True∧(0 : Int) = if loadsOk n s = true then (0 : Int) else (43 : Int))∧True)∧((f (0 : Nat) != (0 : Int)) = false→(∃ (g : Nat), (g≤m∧allB g (lotOk n s m f) = true)∧True∧((True∧(0 : Int) = (↑g : Int))∧True)∧True)∧∀ (g : Nat), g≤m∧allB g (lotOk n s m f) = true→(decide ((↑g : Int) < (↑m : Int)) = true→(0 : Int)≤(↑g : Int)∧(↑g : Int) < (↑m : Int)∧inRange IntKind.i64 ((↑g : Int) + (1 : Int))∧(decide ((↑g : Int) + (1 : Int) < (↑m : Int)) = true→inRange IntKind.i64 ((↑g : Int) + (1 : Int))∧(0 : Int)≤(↑g : Int) + (1 : Int)∧(↑g : Int) + (1 : Int) < (↑m : Int)∧inRange IntKind.i64 (f g + (1 : Int))∧∃ (x : Int × Int × Int), ((True∧f ((↑g : Int) + (1 : Int)).toNat = x.fst)∧(True∧f g + (1 : Int) = x.snd.fst)∧(True∧(↑n : Int) = x.snd.snd)∧True)∧True∧((!within x.fst x.snd.fst x.snd.snd) = true→(True∧(loadsOk n s && areLots n s m f) = false)∧(True∧(0 : Int) = if loadsOk n s = true then (0 : Int) else (43 : Int))∧True)∧((!within x.fst x.snd.fst x.snd.snd) = false→(0 : Int)≤f g∧f g≤f ((↑g : Int) + (1 : Int)).toNat∧f ((↑g : Int) + (1 : Int)).toNat≤(↑n : Int)∧∃ (x : SpsIn), ((True∧True∧(f ((↑g : Int) + (1 : Int)).toNat).toNat - (f g).toNat = x.n∧∀ (i : Nat), i < (f ((↑g : Int) + (1 : Int)).toNat).toNat - (f g).toNat→(True∧s (i + (f g).toNat) 0 = x.s i 0)∧s (i + (f g).toNat) 1 = x.s i 1)∧True)∧((0 : Nat) < x.n∧x.n < (4611686018427387904 : Nat))∧((!alikeB x.n x.s) = true→(True∧(loadsOk n s && areLots n s m f) = false)∧(True∧(0 : Int) = if loadsOk n s = true then (0 : Int) else (43 : Int))∧True)∧((!alikeB x.n x.s) = false→inRange IntKind.i64 ((↑g : Int) + (1 : Int))∧∃ (g' : Nat), (g'≤m∧allB g' (lotOk n s m f) = true)∧m - g' < m - g∧True∧((True∧(↑g : Int) + (1 : Int) = (↑g' : Int))∧True)∧True)))∧(decide ((↑g : Int) + (1 : Int) < (↑m : Int)) = false→inRange IntKind.i64 (f g + (1 : Int))∧∃ (x : Int × Int × Int), ((True∧(↑n : Int) = x.fst)∧(True∧f g + (1 : Int) = x.snd.fst)∧(True∧(↑n : Int) = x.snd.snd)∧True)∧True∧((!within x.fst x.snd.fst x.snd.snd) = true→(True∧(loadsOk n s && areLots n s m f) = false)∧(True∧(0 : Int) = if loadsOk n s = true then (0 : Int) else (43 : Int))∧True)∧((!within x.fst x.snd.fst x.snd.snd) = false→(0 : Int)≤f g∧f g≤(↑n : Int)∧(↑n : Int)≤(↑n : Int)∧∃ (x : SpsIn), ((True∧True∧n - (f g).toNat = x.n∧∀ (i : Nat), i < n - (f g).toNat→(True∧s (i + (f g).toNat) 0 = x.s i 0)∧s (i + (f g).toNat) 1 = x.s i 1)∧True)∧((0 : Nat) < x.n∧x.n < (4611686018427387904 : Nat))∧((!alikeB x.n x.s) = true→(True∧(loadsOk n s && areLots n s m f) = false)∧(True∧(0 : Int) = if loadsOk n s = true then (0 : Int) else (43 : Int))∧True)∧((!alikeB x.n x.s) = false→inRange IntKind.i64 ((↑g : Int) + (1 : Int))∧∃ (g' : Nat), (g'≤m∧allB g' (lotOk n s m f) = true)∧m - g' < m - g∧True∧((True∧(↑g : Int) + (1 : Int) = (↑g' : Int))∧True)∧True))))∧(decide ((↑g : Int) < (↑m : Int)) = false→(True∧(loadsOk n s && areLots n s m f) = true)∧(True∧(0 : Int) = if loadsOk n s = true then (0 : Int) else (43 : Int))∧True))))) (by kernel_rfl) ?_
 simp only [true_and, and_true, inR, Prod.exists, Prod.forall, and_assoc, exists_and_left, exists_eq_left', exists_eq_left, forall_eq, exists_const, forall_const, loopN, loopM, fa2, fas, fas2, dup1, dup2, dup3, dup4, ite_true, exhs, exhn, exhz, exho, exA, ex1, ex2, ex3, ex4, ex5, beqI, bneI, decide_true, Bool.true_and, decide_eq_true_eq, decide_eq_false_iff_not, ne_eq, Decidable.not_not]
 obtain ⟨h, h2, hf⟩ : n < 4611686018427387904 ∧ m < 4611686018427387904 ∧ ∀ k, k < m → 0 ≤ f k ∧ f k ≤ 1000 := h
 refine exSp ⟨h, fun hb => ?_, fun hb => ?_⟩
 · have hb : loadsOk n s = false := by simpa using hb
   rw [hb]; exact ⟨rfl, rfl⟩
 have hb : loadsOk n s = true := by simpa using hb
 have e0 : (0 : Int) = if loadsOk n s = true then 0 else 43 := by rw [if_pos hb]
 have bad : areLots n s m f = false → (loadsOk n s && areLots n s m f) = false ∧ (0 : Int) = if loadsOk n s = true then 0 else 43 := fun h => ⟨by rw [h, Bool.and_false], e0⟩
 have badI : ∀ g, g < m → lotOk n s m f g = false → (loadsOk n s && areLots n s m f) = false ∧ (0 : Int) = if loadsOk n s = true then 0 else 43 := fun g hg hk => bad (by unfold areLots; rw [allB_no hg hk, Bool.and_false])
 refine ⟨fun m0 => bad (by unfold areLots; rw [decide_eq_false (by omega)]; rfl), fun m0 => ⟨by omega, by omega, fun f0 => bad (by unfold areLots; rw [decide_eq_false f0, Bool.and_false]; rfl), fun f0 => ⟨Nat.zero_le _, rfl, fun g hg ha => ⟨by omega, by omega, by omega, by omega, fun c => ?_, fun c => ?_⟩, fun ha => ⟨?_, e0⟩⟩⟩⟩
 · obtain ⟨f1, f2⟩ := hf g hg
   obtain ⟨f3, f4⟩ := hf (g + 1) (by omega)
   have eg : ((g : Int) + 1).toNat = g + 1 := by omega
   have et : toI n m f g = f (g + 1) := if_pos (by omega)
   rw [eg]
   refine ⟨by omega, by omega, by omega, by omega, by omega, by omega, fun w => badI g hg ?_, fun w => ?_⟩
   · have w : within (f (g + 1)) (f g + 1) n = false := by simpa using w
     unfold lotOk; rw [et, w]; rfl
   · have w : within (f (g + 1)) (f g + 1) n = true := by simpa using w
     have w' := Bm.within_iff.1 w
     refine ⟨by omega, by omega, by omega, exCut ⟨by show 0 < (f (g + 1)).toNat - (f g).toNat; omega, by show (f (g + 1)).toNat - (f g).toNat < _; omega, fun q => badI g hg ?_, fun q => ⟨by omega, by omega, by omega, ?_, by omega⟩⟩⟩
     · have q : alikeB ((f (g + 1)).toNat - (f g).toNat) (cutS s (f g).toNat) = false := by simpa using q
       unfold lotOk; rw [et, q, Bool.and_false]
     · have q : alikeB ((f (g + 1)).toNat - (f g).toNat) (cutS s (f g).toNat) = true := by simpa using q
       show (allB g (lotOk n s m f) && lotOk n s m f g) = true
       unfold lotOk at ha ⊢; rw [ha, et, w, q]; rfl
 · obtain ⟨f1, f2⟩ := hf g hg
   have et : toI n m f g = n := if_neg (by omega)
   refine ⟨by omega, by omega, fun w => badI g hg ?_, fun w => ?_⟩
   · have w : within (n : Int) (f g + 1) n = false := by simpa using w
     unfold lotOk; rw [et, w]; rfl
   · have w : within (n : Int) (f g + 1) n = true := by simpa using w
     have w' := Bm.within_iff.1 w
     refine ⟨by omega, by omega, by omega, exCut ⟨by show 0 < n - (f g).toNat; omega, by show n - (f g).toNat < _; omega, fun q => badI g hg ?_, fun q => ⟨by omega, by omega, by omega, ?_, by omega⟩⟩⟩
     · have q : alikeB (n - (f g).toNat) (cutS s (f g).toNat) = false := by simpa using q
       unfold lotOk; rw [et, show ((n : Int)).toNat = n by omega, q, Bool.and_false]
     · have q : alikeB (n - (f g).toNat) (cutS s (f g).toNat) = true := by simpa using q
       show (allB g (lotOk n s m f) && lotOk n s m f g) = true
       unfold lotOk at ha ⊢; rw [ha, et, w, show ((n : Int)).toNat = n by omega, q]; rfl
 · unfold areLots
   rw [hb, ha, decide_eq_true (show 0 < m by omega), decide_eq_true f0]; rfl
def TH : List (Nat × Sig) := (8, sAre) :: (6, sLots) :: TH1
theorem TH_ok : SigsOk Try.prog E0 TH := (TH1_ok.cons (runs 6 (by kernel_rfl)) q6).cons (runs 8 (by kernel_rfl)) q8
end Go.Proofs.Ytpigkgoooekcgaa
namespace Go.Proofs.Ytpigkgoooekcgaa
open Go Go.Sx Bm
set_option maxRecDepth 100000
def TC : List (Nat × Sig) := TB
theorem TC_ok : SigsOk Try.prog E0 TC := TB_ok
theorem is35 : (lookFn fnTab 35).isSome = true := by kernel_rfl
theorem is36 : (lookFn fnTab 36).isSome = true := by kernel_rfl
theorem is78 : (lookFn fnTab 78).isSome = true := by kernel_rfl
theorem is60 : (lookFn fnTab 60).isSome = true := by kernel_rfl
def mapN (t : Nat) (st : St) : List (Nat × Blk) := match st.tm t with
 | .t (.c (.ptr n _)) => (match st.hp n with
   | some (.box _ g) => (match g 1 with | .mp m => [(m, .mpI MC Inv)] | _ => [])
   | _ => [])
 | _ => []
def V4 : List (Nat × ESpec) := (60, eRule) :: (35, ePlan) :: V3
theorem V4_ok : EvensOk Try.prog E0 V4 := (V3_ok.cons r35).cons r60
structure KeepIn where
 N : Nat
 o : Nat
 a : Nat
 r : Nat → Int
structure KeepIn.wf (g : KeepIn) : Prop where
 N : g.N ≤ 40
 o : g.o ≤ g.N
 a : g.a ≤ g.o
 rule : ruleOk g.N g.r = true
def eKeeps : ESpec where
 γ := KeepIn
 ok g := g.wf
 arg g := [lotTV g.N, arrTV 6 g.r, twoTV g.o g.a]
 hp _ := [(.argc 0 1, .mpI MC Inv)]
 res g := [.c (.bool (keeps g.N g.o g.a g.r))]
def aKee (t : Nat) (g : KeepIn) : Ann := { G := Nat, ok := fun _ j => j ≤ g.N + 1 ∧ allB j (keep1 g.N g.o g.a g.r) = true, dom := fun _ => [], tm := fun _ j => [(t, .t (intC j))], hp := fun _ _ => [], mu := fun _ j => g.N + 1 - j }
theorem r36n (n : Nat) (g : KeepIn) (h : eKeeps.ok g) (ms : Nat → List Int → Option Int) (hm : ∀ j T I, canonHp (eKeeps.hp g) j = some (.mpI T I) → ∀ ks x, ms j ks = some x → I ks x) : inlBody (E0.all TC ((36, { eKeeps with ok := fun g => eKeeps.ok g ∧ 0 < n }) :: V4) [(36, 2, aKee 12 g)] [] [] (wkAt 36)) (vc (E0.all TC ((36, { eKeeps with ok := fun g => eKeeps.ok g ∧ 0 < n }) :: V4) [(36, 2, aKee 12 g)] [] [] (wkAt 36)) 6) 36 (eKeeps.arg g) (openHp ms (canonHp (eKeeps.hp g))) (lenR (eKeeps.hp g)) [] (fun v hp _ _ => evenFit eKeeps g v hp) := by
 refine of_red (q := (True∧∀ (ks : List Int) (x : Int), ms (0 : Nat) ks = some x→x = cI (ks.getD (0 : Nat) (0 : Int)) (ks.getD (1 : Nat) (0 : Int)))∧inRange IntKind.i64 ((↑g.N : Int) + (1 : Int))∧(∃ (g_1 : Nat), (g_1≤g.N + (1 : Nat)∧allB g_1 (keep1 g.N g.o g.a g.r) = true)∧True∧((True∧(0 : Int) = (↑g_1 : Int))∧True)∧True)∧∀ (g_1 : Nat), g_1≤g.N + (1 : Nat)∧allB g_1 (keep1 g.N g.o g.a g.r) = true→(decide ((↑g_1 : Int) < (↑g.N : Int) + (1 : Int)) = true→(lookFn fnTab (78 : Nat)).isSome = true∧∃ (g_2 : FndIn), (g_2.N≤(40 : Nat)∧g_2.b≤g_2.N∧g_2.o≤g_2.N∧g_2.hi≤g_2.o∧g_2.lo≤g_2.hi + (1 : Nat))∧True∧((True∧(True∧True∧(↑g.N : Int) = (↑g_2.N : Int))∧True)∧(True∧(↑g_1 : Int) = (↑g_2.b : Int))∧(True∧(↑g.o : Int) = (↑g_2.o : Int))∧(True∧(0 : Int) = (↑g_2.lo : Int))∧(True∧(↑g.a : Int) = (↑g_2.hi : Int))∧True)∧((True∧∀ (ks : List Int) (x : Int), x = cI (ks.getD (0 : Nat) (0 : Int)) (ks.getD (1 : Nat) (0 : Int))→x = cI (ks.getD (0 : Nat) (0 : Int)) (ks.getD (1 : Nat) (0 : Int)))∧True)∧((True∧∀ (ks : List Int) (x : Int), x = cI (ks.getD (0 : Nat) (0 : Int)) (ks.getD (1 : Nat) (0 : Int))→x = cI (ks.getD (0 : Nat) (0 : Int)) (ks.getD (1 : Nat) (0 : Int)))∧True)∧(decide ((↑g_1 : Int)≤g.r (0 : Nat)) = true→inRange IntKind.i64 ((↑(fnd g_2.N g_2.b g_2.o g_2.lo g_2.hi) : Int) * g.r ((0 : Nat) + (nat_lit 0 + (1 : Nat)) + (nat_lit 0 + (1 : Nat))))∧inRange IntKind.i64 (g.r ((0 : Nat) + (nat_lit 0 + (1 : Nat))) * (↑(ch g_2.N g_2.o) : Int))∧inRange IntKind.i64 ((↑(fnd g_2.N g_2.b g_2.o g_2.lo g_2.hi) : Int) * g.r ((0 : Nat) + (nat_lit 0 + (1 : Nat)) + (nat_lit 0 + (1 : Nat))) - g.r ((0 : Nat) + (nat_lit 0 + (1 : Nat))) * (↑(ch g_2.N g_2.o) : Int))∧(decide ((↑(fnd g_2.N g_2.b g_2.o g_2.lo g_2.hi) : Int) * g.r ((0 : Nat) + (nat_lit 0 + (1 : Nat)) + (nat_lit 0 + (1 : Nat))) - g.r ((0 : Nat) + (nat_lit 0 + (1 : Nat))) * (↑(ch g_2.N g_2.o) : Int) < (0 : Int)) = true→((True∧∀ (ks : List Int) (x : Int), x = cI (ks.getD (0 : Nat) (0 : Int)) (ks.getD (1 : Nat) (0 : Int))→x = cI (ks.getD (0 : Nat) (0 : Int)) (ks.getD (1 : Nat) (0 : Int)))∧True)∧True∧keeps g.N g.o g.a g.r = false)∧(decide ((↑(fnd g_2.N g_2.b g_2.o g_2.lo g_2.hi) : Int) * g.r ((0 : Nat) + (nat_lit 0 + (1 : Nat)) + (nat_lit 0 + (1 : Nat))) - g.r ((0 : Nat) + (nat_lit 0 + (1 : Nat))) * (↑(ch g_2.N g_2.o) : Int) < (0 : Int)) = false→(decide (g.r ((0 : Nat) + (nat_lit 2 + (1 : Nat)))≤(↑g_1 : Int)) = true→inRange IntKind.i64 ((↑(fnd g_2.N g_2.b g_2.o g_2.lo g_2.hi) : Int) * g.r ((0 : Nat) + (nat_lit 0 + (1 : Nat)) + (nat_lit 3 + (1 : Nat))))∧inRange IntKind.i64 (g.r ((0 : Nat) + (nat_lit 3 + (1 : Nat))) * (↑(ch g_2.N g_2.o) : Int))∧inRange IntKind.i64 ((↑(fnd g_2.N g_2.b g_2.o g_2.lo g_2.hi) : Int) * g.r ((0 : Nat) + (nat_lit 0 + (1 : Nat)) + (nat_lit 3 + (1 : Nat))) - g.r ((0 : Nat) + (nat_lit 3 + (1 : Nat))) * (↑(ch g_2.N g_2.o) : Int))∧(decide ((0 : Int) < (↑(fnd g_2.N g_2.b g_2.o g_2.lo g_2.hi) : Int) * g.r ((0 : Nat) + (nat_lit 0 + (1 : Nat)) + (nat_lit 3 + (1 : Nat))) - g.r ((0 : Nat) + (nat_lit 3 + (1 : Nat))) * (↑(ch g_2.N g_2.o) : Int)) = true→((True∧∀ (ks : List Int) (x : Int), x = cI (ks.getD (0 : Nat) (0 : Int)) (ks.getD (1 : Nat) (0 : Int))→x = cI (ks.getD (0 : Nat) (0 : Int)) (ks.getD (1 : Nat) (0 : Int)))∧True)∧True∧keeps g.N g.o g.a g.r = false)∧(decide ((0 : Int) < (↑(fnd g_2.N g_2.b g_2.o g_2.lo g_2.hi) : Int) * g.r ((0 : Nat) + (nat_lit 0 + (1 : Nat)) + (nat_lit 3 + (1 : Nat))) - g.r ((0 : Nat) + (nat_lit 3 + (1 : Nat))) * (↑(ch g_2.N g_2.o) : Int)) = false→inRange IntKind.i64 ((↑g_1 : Int) + (1 : Int))∧∃ (g' : Nat), (g'≤g.N + (1 : Nat)∧allB g' (keep1 g.N g.o g.a g.r) = true)∧g.N + (1 : Nat) - g' < g.N + (1 : Nat) - g_1∧True∧((True∧(↑g_1 : Int) + (1 : Int) = (↑g' : Int))∧True)∧True))∧(decide (g.r ((0 : Nat) + (nat_lit 2 + (1 : Nat)))≤(↑g_1 : Int)) = false→inRange IntKind.i64 ((↑g_1 : Int) + (1 : Int))∧∃ (g' : Nat), (g'≤g.N + (1 : Nat)∧allB g' (keep1 g.N g.o g.a g.r) = true)∧g.N + (1 : Nat) - g' < g.N + (1 : Nat) - g_1∧True∧((True∧(↑g_1 : Int) + (1 : Int) = (↑g' : Int))∧True)∧True)))∧(decide ((↑g_1 : Int)≤g.r (0 : Nat)) = false→(decide (g.r ((0 : Nat) + (nat_lit 2 + (1 : Nat)))≤(↑g_1 : Int)) = true→inRange IntKind.i64 ((↑(fnd g_2.N g_2.b g_2.o g_2.lo g_2.hi) : Int) * g.r ((0 : Nat) + (nat_lit 0 + (1 : Nat)) + (nat_lit 3 + (1 : Nat))))∧inRange IntKind.i64 (g.r ((0 : Nat) + (nat_lit 3 + (1 : Nat))) * (↑(ch g_2.N g_2.o) : Int))∧inRange IntKind.i64 ((↑(fnd g_2.N g_2.b g_2.o g_2.lo g_2.hi) : Int) * g.r ((0 : Nat) + (nat_lit 0 + (1 : Nat)) + (nat_lit 3 + (1 : Nat))) - g.r ((0 : Nat) + (nat_lit 3 + (1 : Nat))) * (↑(ch g_2.N g_2.o) : Int))∧(decide ((0 : Int) < (↑(fnd g_2.N g_2.b g_2.o g_2.lo g_2.hi) : Int) * g.r ((0 : Nat) + (nat_lit 0 + (1 : Nat)) + (nat_lit 3 + (1 : Nat))) - g.r ((0 : Nat) + (nat_lit 3 + (1 : Nat))) * (↑(ch g_2.N g_2.o) : Int)) = true→((True∧∀ (ks : List Int) (x : Int), x = cI (ks.getD (0 : Nat) (0 : Int)) (ks.getD (1 : Nat) (0 : Int))→x = cI (ks.getD (0 : Nat) (0 : Int)) (ks.getD (1 : Nat) (0 : Int)))∧True)∧True∧keeps g.N g.o g.a g.r = false)∧(decide ((0 : Int) < (↑(fnd g_2.N g_2.b g_2.o g_2.lo g_2.hi) : Int) * g.r ((0 : Nat) + (nat_lit 0 + (1 : Nat)) + (nat_lit 3 + (1 : Nat))) - g.r ((0 : Nat) + (nat_lit 3 + (1 : Nat))) * (↑(ch g_2.N g_2.o) : Int)) = false→inRange IntKind.i64 ((↑g_1 : Int) + (1 : Int))∧∃ (g' : Nat), (g'≤g.N + (1 : Nat)∧allB g' (keep1 g.N g.o g.a g.r) = true)∧g.N + (1 : Nat) - g' < g.N + (1 : Nat) - g_1∧True∧((True∧(↑g_1 : Int) + (1 : Int) = (↑g' : Int))∧True)∧True))∧(decide (g.r ((0 : Nat) + (nat_lit 2 + (1 : Nat)))≤(↑g_1 : Int)) = false→inRange IntKind.i64 ((↑g_1 : Int) + (1 : Int))∧∃ (g' : Nat), (g'≤g.N + (1 : Nat)∧allB g' (keep1 g.N g.o g.a g.r) = true)∧g.N + (1 : Nat) - g' < g.N + (1 : Nat) - g_1∧True∧((True∧(↑g_1 : Int) + (1 : Int) = (↑g' : Int))∧True)∧True)))∧(decide ((↑g_1 : Int) < (↑g.N : Int) + (1 : Int)) = false→((True∧∀ (ks : List Int) (x : Int), x = cI (ks.getD (0 : Nat) (0 : Int)) (ks.getD (1 : Nat) (0 : Int))→x = cI (ks.getD (0 : Nat) (0 : Int)) (ks.getD (1 : Nat) (0 : Int)))∧True)∧True∧keeps g.N g.o g.a g.r = true)) (by kernel_rfl) ?_
 have hI : ∀ ks x, ms 0 ks = some x → x = cI (ks.getD 0 0) (ks.getD 1 0) := hm 0 MC Inv rfl
 obtain ⟨N, o, a, r⟩ := g
 obtain ⟨h0, h1, h2, h3⟩ := h
 have h0 : N ≤ 40 := h0
 have h1 : o ≤ N := h1
 have h2 : a ≤ o := h2
 have h3 : ruleOk N r = true := h3
 simp only [true_and, and_true, inR, Prod.exists, Prod.forall, and_assoc, exists_and_left, exists_eq_left', exists_eq_left, forall_eq, exists_const, forall_const, loopN, loopM, fa2, fas, fas2, dup1, dup2, dup3, dup4, ite_true, exhs, exhn, exhz, exho, exA, ex1, ex2, ex3, ex4, ex5, beqI, bneI, decide_true, Bool.true_and, decide_eq_true_eq, decide_eq_false_iff_not, ne_eq, Decidable.not_not]
 have rb := rule_bd h3
 have cb := ch_le (n := N) (k := o) h0
 have c0 := ch_pos (n := N) (k := o) h1
 refine ⟨hI, by omega, by omega, by omega, rfl, fun j ⟨hj, hall⟩ => ⟨fun hlt => ⟨is78, ⟨N, j, o, 0, a⟩, h0, by show j ≤ N; omega, h1, h2, Nat.zero_le _, rfl, rfl, rfl, rfl, rfl, ?_⟩, fun hge => ?_⟩⟩
 · have hlt : (j : Int) < (N : Int) + 1 := hlt
   have fb := F_le (N := N) (b := j) (o := o) (a := a) (by omega) h2
   have kf : Brk r j (F N j o a) (ch N o) → keeps N o a r = false := keeps_not (by omega)
   have kt : ¬ Brk r j (F N j o a) (ch N o) → allB (j + 1) (keep1 N o a r) = true := keeps_step hall
   simp only [fnd_F]
   generalize F N j o a = X at fb kf kt ⊢
   generalize ch N o = Y at fb cb c0 kf kt ⊢
   have p1 := prod_bd (a := X) (b := r 2) (by omega) (by omega) (by omega) (by omega)
   have p2 := prod_bd (a := Y) (b := r 1) (by omega) (by omega) (by omega) (by omega)
   have p3 := prod_bd (a := X) (b := r 5) (by omega) (by omega) (by omega) (by omega)
   have p4 := prod_bd (a := Y) (b := r 4) (by omega) (by omega) (by omega) (by omega)
   rw [Int.mul_comm] at p2 p4
   unfold Brk at kf kt
   simp only [Nat.zero_add, Nat.reduceAdd]
   generalize (X : Int) * r 2 = P1 at *
   generalize r 1 * (Y : Int) = P2 at *
   generalize (X : Int) * r 5 = P3 at *
   generalize r 4 * (Y : Int) = P4 at *
   have nxt : ¬ ((j : Int) ≤ r 0 ∧ P1 < P2 ∨ r 3 ≤ (j : Int) ∧ P4 < P3) → -9223372036854775808 ≤ (j : Int) + 1 ∧ (j : Int) + 1 ≤ 9223372036854775807 ∧ j + 1 ≤ N + 1 ∧ allB (j + 1) (keep1 N o a r) = true ∧ N + 1 - (j + 1) < N + 1 - j := fun h => ⟨by omega, by omega, by omega, kt h, by omega⟩
   exact ⟨fun c1 => ⟨by omega, by omega, by omega, by omega, by omega, by omega, fun c2 => kf (by omega), fun c2 => ⟨fun c3 => ⟨by omega, by omega, by omega, by omega, by omega, by omega, fun c4 => kf (by omega), fun c4 => nxt (by omega)⟩, fun c3 => nxt (by omega)⟩⟩, fun c1 => ⟨fun c3 => ⟨by omega, by omega, by omega, by omega, by omega, by omega, fun c4 => kf (by omega), fun c4 => nxt (by omega)⟩, fun c3 => nxt (by omega)⟩⟩
 · obtain rfl : j = N + 1 := by omega
   exact hall
theorem r36 : ∀ g, eKeeps.ok g → SemK Try.prog E0 36 eKeeps.toK g :=
 even_at E0_ok TC TC_ok V4 V4_ok runs eKeeps (fun g => [(36, 2, aKee 12 g)]) (fun g => []) [] (fun _ => wkAt 36) (fun _ => 0) (fun n g hg _ ms hm => r36n n g hg ms hm)
def sOdds : Sig := ⟨Int × Int × Int × Int, fun x => [intC x.1, intC x.2.1, twoTV x.2.2.1 x.2.2.2], fun _ => True, fun x => [.v (twoTV (oddsOf x.1 x.2.1 x.2.2.1 x.2.2.2) (oddsIn x.1 x.2.1 x.2.2.1 x.2.2.2)), .v (intC (oddsE x.1 x.2.1 x.2.2.1 x.2.2.2))]⟩
theorem q29 (x : sOdds.α) : CallQ Try.prog E0 29 (sOdds.arg x) (sOdds.res x) := by
 obtain ⟨N, b, o, a⟩ := x
 refine bare_all E0_ok TC TC_ok V4 V4_ok runs [] [] [] [(29, 4, mapN 8)] (fuel := 5) ?_
 refine of_red (q := ∃ (x : Int × Int × Int), ((True∧N = x.fst)∧(True∧(1 : Int) = x.snd.fst)∧(True∧(40 : Int) = x.snd.snd)∧True)∧True∧((!within x.fst x.snd.fst x.snd.snd) = true→(True∧(True∧True∧(0 : Int) = oddsOf N (b, o, a).fst (b, o, a).snd.fst (b, o, a).snd.snd)∧True∧(0 : Int) = oddsIn N (b, o, a).fst (b, o, a).snd.fst (b, o, a).snd.snd)∧(True∧(7 : Int) = oddsE N (b, o, a).fst (b, o, a).snd.fst (b, o, a).snd.snd)∧True)∧((!within x.fst x.snd.fst x.snd.snd) = false→∃ (x : Int × Int × Int), ((True∧b = x.fst)∧(True∧(0 : Int) = x.snd.fst)∧(True∧N = x.snd.snd)∧True)∧True∧((!within x.fst x.snd.fst x.snd.snd) = true→(True∧(True∧True∧(0 : Int) = oddsOf N (b, o, a).fst (b, o, a).snd.fst (b, o, a).snd.snd)∧True∧(0 : Int) = oddsIn N (b, o, a).fst (b, o, a).snd.fst (b, o, a).snd.snd)∧(True∧(7 : Int) = oddsE N (b, o, a).fst (b, o, a).snd.fst (b, o, a).snd.snd)∧True)∧((!within x.fst x.snd.fst x.snd.snd) = false→(True∧∀ (ks : List Int) (x : Int), none = some x→x = cI (ks.getD (0 : Nat) (0 : Int)) (ks.getD (1 : Nat) (0 : Int)))∧(lookFn fnTab (35 : Nat)).isSome = true∧∃ (g : Nat × Int × Int), g.fst≤(1000000 : Nat)∧True∧((True∧(True∧True∧N = (↑g.fst : Int))∧True)∧(True∧(True∧True∧(b, o, a).snd.fst = g.snd.fst)∧True∧(b, o, a).snd.snd = g.snd.snd)∧True)∧((True∧∀ (ks : List Int) (x : Int), x = cI (ks.getD (0 : Nat) (0 : Int)) (ks.getD (1 : Nat) (0 : Int))→x = cI (ks.getD (0 : Nat) (0 : Int)) (ks.getD (1 : Nat) (0 : Int)))∧True)∧((True∧∀ (ks : List Int) (x : Int), x = cI (ks.getD (0 : Nat) (0 : Int)) (ks.getD (1 : Nat) (0 : Int))→x = cI (ks.getD (0 : Nat) (0 : Int)) (ks.getD (1 : Nat) (0 : Int)))∧True)∧((!planOk (↑g.fst : Int) g.snd.fst g.snd.snd) = true→(True∧(True∧True∧(0 : Int) = oddsOf N (b, o, a).fst (b, o, a).snd.fst (b, o, a).snd.snd)∧True∧(0 : Int) = oddsIn N (b, o, a).fst (b, o, a).snd.fst (b, o, a).snd.snd)∧(True∧(72 : Int) = oddsE N (b, o, a).fst (b, o, a).snd.fst (b, o, a).snd.snd)∧True)∧((!planOk (↑g.fst : Int) g.snd.fst g.snd.snd) = false→(lookFn fnTab (78 : Nat)).isSome = true∧∃ (g : FndIn), (g.N≤(40 : Nat)∧g.b≤g.N∧g.o≤g.N∧g.hi≤g.o∧g.lo≤g.hi + (1 : Nat))∧True∧((True∧(True∧True∧N = (↑g.N : Int))∧True)∧(True∧b = (↑g.b : Int))∧(True∧o = (↑g.o : Int))∧(True∧(0 : Int) = (↑g.lo : Int))∧(True∧a = (↑g.hi : Int))∧True)∧((True∧∀ (ks : List Int) (x : Int), x = cI (ks.getD (0 : Nat) (0 : Int)) (ks.getD (1 : Nat) (0 : Int))→x = cI (ks.getD (0 : Nat) (0 : Int)) (ks.getD (1 : Nat) (0 : Int)))∧True)∧((True∧∀ (ks : List Int) (x : Int), x = cI (ks.getD (0 : Nat) (0 : Int)) (ks.getD (1 : Nat) (0 : Int))→x = cI (ks.getD (0 : Nat) (0 : Int)) (ks.getD (1 : Nat) (0 : Int)))∧True)∧∃ (x : Nat × Nat), ((True∧(True∧True∧(↑(fnd g.N g.b g.o g.lo g.hi) : Int) = (↑x.fst : Int))∧True∧(↑(ch g.N g.o) : Int) = (↑x.snd : Int))∧True)∧((0 : Nat) < x.snd∧x.fst≤(1099511627776 : Nat)∧x.snd≤(1099511627776 : Nat))∧(True∧(True∧True∧(↑(x.fst / x.fst.gcd x.snd) : Int) = oddsOf N (b, o, a).fst (b, o, a).snd.fst (b, o, a).snd.snd)∧True∧(↑(x.snd / x.fst.gcd x.snd) : Int) = oddsIn N (b, o, a).fst (b, o, a).snd.fst (b, o, a).snd.snd)∧(True∧(0 : Int) = oddsE N (b, o, a).fst (b, o, a).snd.fst (b, o, a).snd.snd)∧True)))) (by kernel_rfl) ?_
 simp only [true_and, and_true, inR, Prod.exists, Prod.forall, and_assoc, exists_and_left, exists_eq_left', exists_eq_left, forall_eq, exists_const, forall_const, loopN, loopM, fa2, fas, fas2, dup1, dup2, dup3, dup4, ite_true, exhs, exhn, exhz, exho, exA, ex1, ex2, ex3, ex4, ex5, beqI, bneI, decide_true, Bool.true_and, decide_eq_true_eq, decide_eq_false_iff_not, ne_eq, Decidable.not_not]
 have b7 : ¬ (within N 1 40 && within b 0 N) = true → 0 = oddsOf N b o a ∧ 0 = oddsIn N b o a ∧ 7 = oddsE N b o a := fun h => let ⟨e1, e2, e3⟩ := odds_bad7 (o := o) (a := a) h; ⟨e1.symm, e2.symm, e3.symm⟩
 have b72 : (within N 1 40 && within b 0 N) = true → ¬ planOk N o a = true → 0 = oddsOf N b o a ∧ 0 = oddsIn N b o a ∧ 72 = oddsE N b o a := fun h0 h => let ⟨e1, e2, e3⟩ := odds_bad72 h0 h; ⟨e1.symm, e2.symm, e3.symm⟩
 refine ⟨fun h => b7 (by simp_all), fun h1 => ⟨fun h => b7 (by simp_all), fun h2 => ?_⟩⟩
 · refine ⟨fun _ _ h => (by cases h), is35, ?_⟩
   simp only [Bool.not_eq_false'] at h1 h2
   have w := Bool.and_eq_true_iff.2 ⟨h1, h2⟩
   have w1 := Bm.within_iff.1 h1
   have w2 := Bm.within_iff.1 h2
   obtain ⟨n, rfl⟩ : ∃ n : Nat, N = n := ⟨N.toNat, by omega⟩
   obtain ⟨c, rfl⟩ : ∃ c : Nat, b = c := ⟨b.toNat, by omega⟩
   refine ⟨n, by omega, rfl, fun h3 => b72 w (by simp_all), fun h3 => ?_⟩
   have h3 : planOk n o a = true := by simpa using h3
   have w3 := h3
   simp only [planOk, Bool.and_eq_true, Bm.within_iff] at w3
   obtain ⟨u, rfl⟩ : ∃ u : Nat, o = u := ⟨o.toNat, by omega⟩
   obtain ⟨v, rfl⟩ : ∃ v : Nat, a = v := ⟨a.toNat, by omega⟩
   obtain ⟨e1, e2, e3⟩ := odds_good w h3
   have cb := ch_le (n := n) (k := u) (by omega)
   have c0 := ch_pos (n := n) (k := u) (by omega)
   have fb := F_le (N := n) (b := c) (o := u) (a := v) (by omega) (by omega)
   refine ⟨is78, ⟨n, c, u, 0, v⟩, by show n ≤ 40; omega, by show c ≤ n; omega, by show u ≤ n; omega, by show v ≤ u; omega, Nat.zero_le _, rfl, rfl, rfl, rfl, rfl, c0, ?_, cb, ?_, ?_, e3.symm⟩
   · show fnd n c u 0 v ≤ 1099511627776
     rw [fnd_F]; omega
   · show ((fnd n c u 0 v / Nat.gcd (fnd n c u 0 v) (ch n u) : Nat) : Int) = _
     rw [fnd_F]; exact e1.symm
   · show ((ch n u / Nat.gcd (fnd n c u 0 v) (ch n u) : Nat) : Int) = _
     rw [fnd_F]; exact e2.symm
end Go.Proofs.Ytpigkgoooekcgaa
namespace Go.Proofs.Ytpigkgoooekcgaa
open Go Go.Sx Bm
set_option maxRecDepth 100000
def TD : List (Nat × Sig) := (29, sOdds) :: TC
theorem TD_ok : SigsOk Try.prog E0 TD := (TC_ok.cons (runs 29 (by kernel_rfl)) fun x _ => q29 x)
def V5 : List (Nat × ESpec) := (36, eKeeps) :: V4
theorem V5_ok : EvensOk Try.prog E0 V5 := V4_ok.cons r36
def sKeeps : Sig := ⟨Int × (Nat → Int) × Int × Int, fun x => [intC x.1, arrTV 6 x.2.1, twoTV x.2.2.1 x.2.2.2], fun _ => True, fun x => [.v (.c (.bool (keepsB x.1 x.2.1 x.2.2.1 x.2.2.2))), .v (intC (keepsE x.1 x.2.1 x.2.2.1 x.2.2.2))]⟩
theorem q14 (x : sKeeps.α) : CallQ Try.prog E0 14 (sKeeps.arg x) (sKeeps.res x) := by
 obtain ⟨N, r, o, a⟩ := x
 refine bare_all E0_ok TD TD_ok V5 V5_ok runs [] [] [] [(34, 4, mapN 6)] (fuel := 5) ?_
 refine of_red (q := ∃ (x : Int × Int × Int), ((True∧N = x.fst)∧(True∧(1 : Int) = x.snd.fst)∧(True∧(40 : Int) = x.snd.snd)∧True)∧True∧((!within x.fst x.snd.fst x.snd.snd) = true→(((7 : Int) != (0 : Int)) = true→(True∧keepsB N (r, o, a).fst (r, o, a).snd.fst (r, o, a).snd.snd = false)∧(True∧(7 : Int) = keepsE N (r, o, a).fst (r, o, a).snd.fst (r, o, a).snd.snd)∧True)∧(((7 : Int) != (0 : Int)) = false→(lookFn fnTab (35 : Nat)).isSome = true∧∃ (g : Nat × Int × Int), g.fst≤(1000000 : Nat)∧False))∧((!within x.fst x.snd.fst x.snd.snd) = false→(True∧∀ (ks : List Int) (x : Int), none = some x→x = cI (ks.getD (0 : Nat) (0 : Int)) (ks.getD (1 : Nat) (0 : Int)))∧(lookFn fnTab (60 : Nat)).isSome = true∧∃ (g : Nat × (Nat→Int)), g.fst≤(1000000 : Nat)∧True∧((True∧(True∧True∧N = (↑g.fst : Int))∧True)∧(True∧(((((True∧True∧(r, o, a).fst 0 = g.snd 0)∧True∧(r, o, a).fst 1 = g.snd 1)∧True∧(r, o, a).fst 2 = g.snd 2)∧True∧(r, o, a).fst 3 = g.snd 3)∧True∧(r, o, a).fst 4 = g.snd 4)∧True∧(r, o, a).fst 5 = g.snd 5)∧True)∧((True∧∀ (ks : List Int) (x : Int), x = cI (ks.getD (0 : Nat) (0 : Int)) (ks.getD (1 : Nat) (0 : Int))→x = cI (ks.getD (0 : Nat) (0 : Int)) (ks.getD (1 : Nat) (0 : Int)))∧True)∧((True∧∀ (ks : List Int) (x : Int), x = cI (ks.getD (0 : Nat) (0 : Int)) (ks.getD (1 : Nat) (0 : Int))→x = cI (ks.getD (0 : Nat) (0 : Int)) (ks.getD (1 : Nat) (0 : Int)))∧True)∧((!ruleOk (↑g.fst : Int) g.snd) = true→(((71 : Int) != (0 : Int)) = true→(True∧keepsB N (r, o, a).fst (r, o, a).snd.fst (r, o, a).snd.snd = false)∧(True∧(71 : Int) = keepsE N (r, o, a).fst (r, o, a).snd.fst (r, o, a).snd.snd)∧True)∧(((71 : Int) != (0 : Int)) = false→(lookFn fnTab (35 : Nat)).isSome = true∧∃ (g : Nat × Int × Int), g.fst≤(1000000 : Nat)∧True∧((True∧(True∧True∧N = (↑g.fst : Int))∧True)∧(True∧(True∧True∧(r, o, a).snd.fst = g.snd.fst)∧True∧(r, o, a).snd.snd = g.snd.snd)∧True)∧((True∧∀ (ks : List Int) (x : Int), x = cI (ks.getD (0 : Nat) (0 : Int)) (ks.getD (1 : Nat) (0 : Int))→x = cI (ks.getD (0 : Nat) (0 : Int)) (ks.getD (1 : Nat) (0 : Int)))∧True)∧((True∧∀ (ks : List Int) (x : Int), x = cI (ks.getD (0 : Nat) (0 : Int)) (ks.getD (1 : Nat) (0 : Int))→x = cI (ks.getD (0 : Nat) (0 : Int)) (ks.getD (1 : Nat) (0 : Int)))∧True)∧((!planOk (↑g.fst : Int) g.snd.fst g.snd.snd) = true→(True∧keepsB N (r, o, a).fst (r, o, a).snd.fst (r, o, a).snd.snd = false)∧(True∧(72 : Int) = keepsE N (r, o, a).fst (r, o, a).snd.fst (r, o, a).snd.snd)∧True)∧((!planOk (↑g.fst : Int) g.snd.fst g.snd.snd) = false→(lookFn fnTab (36 : Nat)).isSome = true∧∃ (g : KeepIn), g.wf∧True∧((True∧(True∧True∧N = (↑g.N : Int))∧True)∧(True∧(((((True∧True∧(r, o, a).fst 0 = g.r 0)∧True∧(r, o, a).fst 1 = g.r 1)∧True∧(r, o, a).fst 2 = g.r 2)∧True∧(r, o, a).fst 3 = g.r 3)∧True∧(r, o, a).fst 4 = g.r 4)∧True∧(r, o, a).fst 5 = g.r 5)∧(True∧(True∧True∧(r, o, a).snd.fst = (↑g.o : Int))∧True∧(r, o, a).snd.snd = (↑g.a : Int))∧True)∧((True∧∀ (ks : List Int) (x : Int), x = cI (ks.getD (0 : Nat) (0 : Int)) (ks.getD (1 : Nat) (0 : Int))→x = cI (ks.getD (0 : Nat) (0 : Int)) (ks.getD (1 : Nat) (0 : Int)))∧True)∧((True∧∀ (ks : List Int) (x : Int), x = cI (ks.getD (0 : Nat) (0 : Int)) (ks.getD (1 : Nat) (0 : Int))→x = cI (ks.getD (0 : Nat) (0 : Int)) (ks.getD (1 : Nat) (0 : Int)))∧True)∧(True∧keeps g.N g.o g.a g.r = keepsB N (r, o, a).fst (r, o, a).snd.fst (r, o, a).snd.snd)∧(True∧(0 : Int) = keepsE N (r, o, a).fst (r, o, a).snd.fst (r, o, a).snd.snd)∧True)))∧((!ruleOk (↑g.fst : Int) g.snd) = false→(((0 : Int) != (0 : Int)) = true→(True∧keepsB N (r, o, a).fst (r, o, a).snd.fst (r, o, a).snd.snd = false)∧(True∧(0 : Int) = keepsE N (r, o, a).fst (r, o, a).snd.fst (r, o, a).snd.snd)∧True)∧(((0 : Int) != (0 : Int)) = false→(lookFn fnTab (35 : Nat)).isSome = true∧∃ (g : Nat × Int × Int), g.fst≤(1000000 : Nat)∧True∧((True∧(True∧True∧N = (↑g.fst : Int))∧True)∧(True∧(True∧True∧(r, o, a).snd.fst = g.snd.fst)∧True∧(r, o, a).snd.snd = g.snd.snd)∧True)∧((True∧∀ (ks : List Int) (x : Int), x = cI (ks.getD (0 : Nat) (0 : Int)) (ks.getD (1 : Nat) (0 : Int))→x = cI (ks.getD (0 : Nat) (0 : Int)) (ks.getD (1 : Nat) (0 : Int)))∧True)∧((True∧∀ (ks : List Int) (x : Int), x = cI (ks.getD (0 : Nat) (0 : Int)) (ks.getD (1 : Nat) (0 : Int))→x = cI (ks.getD (0 : Nat) (0 : Int)) (ks.getD (1 : Nat) (0 : Int)))∧True)∧((!planOk (↑g.fst : Int) g.snd.fst g.snd.snd) = true→(True∧keepsB N (r, o, a).fst (r, o, a).snd.fst (r, o, a).snd.snd = false)∧(True∧(72 : Int) = keepsE N (r, o, a).fst (r, o, a).snd.fst (r, o, a).snd.snd)∧True)∧((!planOk (↑g.fst : Int) g.snd.fst g.snd.snd) = false→(lookFn fnTab (36 : Nat)).isSome = true∧∃ (g : KeepIn), g.wf∧True∧((True∧(True∧True∧N = (↑g.N : Int))∧True)∧(True∧(((((True∧True∧(r, o, a).fst 0 = g.r 0)∧True∧(r, o, a).fst 1 = g.r 1)∧True∧(r, o, a).fst 2 = g.r 2)∧True∧(r, o, a).fst 3 = g.r 3)∧True∧(r, o, a).fst 4 = g.r 4)∧True∧(r, o, a).fst 5 = g.r 5)∧(True∧(True∧True∧(r, o, a).snd.fst = (↑g.o : Int))∧True∧(r, o, a).snd.snd = (↑g.a : Int))∧True)∧((True∧∀ (ks : List Int) (x : Int), x = cI (ks.getD (0 : Nat) (0 : Int)) (ks.getD (1 : Nat) (0 : Int))→x = cI (ks.getD (0 : Nat) (0 : Int)) (ks.getD (1 : Nat) (0 : Int)))∧True)∧((True∧∀ (ks : List Int) (x : Int), x = cI (ks.getD (0 : Nat) (0 : Int)) (ks.getD (1 : Nat) (0 : Int))→x = cI (ks.getD (0 : Nat) (0 : Int)) (ks.getD (1 : Nat) (0 : Int)))∧True)∧(True∧keeps g.N g.o g.a g.r = keepsB N (r, o, a).fst (r, o, a).snd.fst (r, o, a).snd.snd)∧(True∧(0 : Int) = keepsE N (r, o, a).fst (r, o, a).snd.fst (r, o, a).snd.snd)∧True))))) (by kernel_rfl) ?_
 simp only [true_and, and_true, inR, Prod.exists, Prod.forall, and_assoc, exists_and_left, exists_eq_left', exists_eq_left, forall_eq, exists_const, forall_const, loopN, loopM, fa2, fas, fas2, dup1, dup2, dup3, dup4, ite_true, exhs, exhn, exhz, exho, exA, ex1, ex2, ex3, ex4, ex5, beqI, bneI, decide_true, Bool.true_and, decide_eq_true_eq, decide_eq_false_iff_not, ne_eq, Decidable.not_not]
 have b7 : ¬ within N 1 40 = true → keepsB N r o a = false ∧ 7 = keepsE N r o a := fun h => by
   have e := ruled_7 (r := r) h
   have k := kE_bad (o := o) (a := a) (show ruledE N r ≠ 0 by omega)
   exact ⟨k.2, by rw [k.1, e]⟩
 have b71 : within N 1 40 = true → ¬ ruleOk N r = true → keepsB N r o a = false ∧ 71 = keepsE N r o a := fun h0 h => by
   have e := ruled_71 (r := r) h0 h
   have k := kE_bad (o := o) (a := a) (show ruledE N r ≠ 0 by omega)
   exact ⟨k.2, by rw [k.1, e]⟩
 have b72 : within N 1 40 = true → ruleOk N r = true → ¬ planOk N o a = true → keepsB N r o a = false ∧ 72 = keepsE N r o a := fun h0 h h2 => by
   have k := kE_72 (ruled_0 h0 h) h2
   exact ⟨k.2, k.1.symm⟩
 refine ⟨fun h => ⟨fun _ => b7 (by simpa using h), fun h => absurd h (by omega)⟩, fun hw => ?_⟩
 · have hw : within N 1 40 = true := by simpa using hw
   have w1 := Bm.within_iff.1 hw
   obtain ⟨n, rfl⟩ : ∃ n : Nat, N = n := ⟨N.toNat, by omega⟩
   refine ⟨fun _ _ h => (by cases h), is60, n, by omega, rfl, r, rfl, rfl, rfl, rfl, rfl, rfl, fun h2 => ⟨fun _ => b71 hw (by simpa using h2), fun h => absurd h (by omega)⟩, fun h2 => ⟨fun h => absurd trivial h, is35, n, by omega, rfl, fun h3 => b72 hw (by simpa using h2) (by simpa using h3), fun h3 => ?_⟩⟩
   have h2 : ruleOk n r = true := by simpa using h2
   have h3 : planOk n o a = true := by simpa using h3
   have w3 := h3
   simp only [planOk, Bool.and_eq_true, Bm.within_iff] at w3
   obtain ⟨u, rfl⟩ : ∃ u : Nat, o = u := ⟨o.toNat, by omega⟩
   obtain ⟨v, rfl⟩ : ∃ v : Nat, a = v := ⟨a.toNat, by omega⟩
   have k := kE_0 (ruled_0 hw h2) h3
   exact ⟨is36, ⟨n, u, v, r⟩, ⟨by show n ≤ 40; omega, by show u ≤ n; omega, by show v ≤ u; omega, h2⟩, rfl, rfl, rfl, rfl, rfl, rfl, rfl, rfl, rfl, k.2.symm, k.1.symm⟩
end Go.Proofs.Ytpigkgoooekcgaa
