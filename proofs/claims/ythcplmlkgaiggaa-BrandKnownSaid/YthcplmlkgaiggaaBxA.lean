/- Contracts: numbers of choices, counted by a closure that calls itself over a map. -/
import Derived.Test.YthcplmlkgaiggaaBxEnv
import Derived.Test.YthcplmlkgaiggaaBxSpec
set_option linter.unusedSimpArgs false
set_option linter.unusedVariables false
namespace Go.Proofs.Ythcplmlkgaiggaa
open Go Go.Sx Bm
set_option maxRecDepth 100000

theorem runs (f : Nat) (h : (lookFn fnTab f).isSome = true) : ∃ fn c, Try.prog.funcs[f]? = some fn ∧ (fn.name == "runtime.NumGoroutine") = false ∧ fn.body = some c := fn_runs h

/-- The closure: the variable that holds it, the map's variable, the map. -/
def eOf1 : ESpec where
  γ := Int × Int
  ok g := 0 ≤ g.1 ∧ g.1 ≤ 40 ∧ -100 ≤ g.2 ∧ g.2 ≤ 100
  arg g := [twoTV g.1 g.2, .c (.ptr 0 0), .c (.ptr 1 0)]
  hp _ := [(.arg 1, .box 1 (fun _ => .mp 2)), (.arg 2, .box 1 (fun _ => .fn 80 [] (fun _ _ => .any) 2 (ofList [.ptr 0 0, .ptr 1 0]))), (.cell 0 0, .mpI MC Inv)]
  res g := [intC (cI g.1 g.2)]
def muOf1 (g : Int × Int) : Nat := g.1.toNat
def wkOf1 : List (Nat × Nat × (St → List (Nat × Blk))) := [(80, 7, fun _ => [(2, .mpI MC Inv)])]
theorem is80 : (lookFn fnTab 80).isSome = true := by kernel_rfl
theorem r80n (n : Nat) (o k : Int) (h : eOf1.ok (o, k)) (hn : muOf1 (o, k) = n) (ms : Nat → List Int → Option Int) (hm : ∀ j T I, canonHp (eOf1.hp (o, k)) j = some (.mpI T I) → ∀ ks x, ms j ks = some x → I ks x) : inlBody (E0.all [] [(80, { eOf1 with ok := fun g => eOf1.ok g ∧ muOf1 g < n })] [] [] [] wkOf1) (vc (E0.all [] [(80, { eOf1 with ok := fun g => eOf1.ok g ∧ muOf1 g < n })] [] [] [] wkOf1) 6) 80 (eOf1.arg (o, k)) (openHp ms (canonHp (eOf1.hp (o, k)))) (lenR (eOf1.hp (o, k))) [] (fun v hp _ _ => evenFit eOf1 (o, k) v hp) := by
  refine of_red (q := ((k == (0 : Int)) = true → ((True ∧ True ∧ True) ∧ (True ∧ True ∧ True ∧ True ∧ (True ∧ True ∧ (0 : Nat) = (0 : Nat)) ∧ True ∧ (0 : Nat) = (0 : Nat)) ∧ (True ∧ ∀ (ks : List Int) (x : Int), ms ((0 : Nat) + (1 : Nat) + (1 : Nat)) ks = some x → x = cI (ks.getD (0 : Nat) (0 : Int)) (ks.getD (1 : Nat) (0 : Int))) ∧ True) ∧ True ∧ (1 : Int) = cI o k) ∧ ((k == (0 : Int)) = false → ((o == k && (k == k && true)) = true → ((True ∧ True ∧ True) ∧ (True ∧ True ∧ True ∧ True ∧ (True ∧ True ∧ (0 : Nat) = (0 : Nat)) ∧ True ∧ (0 : Nat) = (0 : Nat)) ∧ (True ∧ ∀ (ks : List Int) (x : Int), ms ((0 : Nat) + (1 : Nat) + (1 : Nat)) ks = some x → x = cI (ks.getD (0 : Nat) (0 : Int)) (ks.getD (1 : Nat) (0 : Int))) ∧ True) ∧ True ∧ (1 : Int) = cI o k) ∧ ((o == k && (k == k && true)) = false → (decide (k < (0 : Int)) = true → ((True ∧ True ∧ True) ∧ (True ∧ True ∧ True ∧ True ∧ (True ∧ True ∧ (0 : Nat) = (0 : Nat)) ∧ True ∧ (0 : Nat) = (0 : Nat)) ∧ (True ∧ ∀ (ks : List Int) (x : Int), ms ((0 : Nat) + (1 : Nat) + (1 : Nat)) ks = some x → x = cI (ks.getD (0 : Nat) (0 : Int)) (ks.getD (1 : Nat) (0 : Int))) ∧ True) ∧ True ∧ (0 : Int) = cI o k) ∧ (decide (k < (0 : Int)) = false → (decide (o < k) = true → ((True ∧ True ∧ True) ∧ (True ∧ True ∧ True ∧ True ∧ (True ∧ True ∧ (0 : Nat) = (0 : Nat)) ∧ True ∧ (0 : Nat) = (0 : Nat)) ∧ (True ∧ ∀ (ks : List Int) (x : Int), ms ((0 : Nat) + (1 : Nat) + (1 : Nat)) ks = some x → x = cI (ks.getD (0 : Nat) (0 : Int)) (ks.getD (1 : Nat) (0 : Int))) ∧ True) ∧ True ∧ (0 : Int) = cI o k) ∧ (decide (o < k) = false → inRange IntKind.i64 o ∧ inRange IntKind.i64 k ∧ ((!isSm (ms (2 : Nat) [o, k])) = true → (True ∧ ∀ (ks : List Int) (x : Int), ms (2 : Nat) ks = some x → x = cI (ks.getD (0 : Nat) (0 : Int)) (ks.getD (1 : Nat) (0 : Int))) ∧ inRange IntKind.i64 (o - (1 : Int)) ∧ (lookFn fnTab (80 : FuncId)).isSome = true ∧ ∃ (g : Int × Int), (((0 : Int) ≤ g.fst ∧ g.fst ≤ (40 : Int) ∧ (-100 : Int) ≤ g.snd ∧ g.snd ≤ (100 : Int)) ∧ muOf1 g < n) ∧ True ∧ ((True ∧ (True ∧ True ∧ o - (1 : Int) = g.fst) ∧ True ∧ k = g.snd) ∧ (True ∧ (0 : Nat) = (0 : Nat)) ∧ (True ∧ (0 : Nat) = (0 : Nat)) ∧ True) ∧ ((True ∧ True ∧ True) ∧ (True ∧ True ∧ True ∧ True ∧ (True ∧ True ∧ (0 : Nat) = (0 : Nat)) ∧ True ∧ (0 : Nat) = (0 : Nat)) ∧ (True ∧ ∀ (ks : List Int) (x : Int), x = cI (ks.getD (0 : Nat) (0 : Int)) (ks.getD (1 : Nat) (0 : Int)) → x = cI (ks.getD (0 : Nat) (0 : Int)) (ks.getD (1 : Nat) (0 : Int))) ∧ True) ∧ ((True ∧ True ∧ True) ∧ (True ∧ True ∧ True ∧ True ∧ (True ∧ True ∧ (0 : Nat) = (0 : Nat)) ∧ True ∧ (0 : Nat) = (0 : Nat)) ∧ (True ∧ ∀ (ks : List Int) (x : Int), x = cI (ks.getD (0 : Nat) (0 : Int)) (ks.getD (1 : Nat) (0 : Int)) → x = cI (ks.getD (0 : Nat) (0 : Int)) (ks.getD (1 : Nat) (0 : Int))) ∧ True) ∧ inRange IntKind.i64 (o - (1 : Int)) ∧ inRange IntKind.i64 (k - (1 : Int)) ∧ (lookFn fnTab (80 : FuncId)).isSome = true ∧ ∃ (g_1 : Int × Int), (((0 : Int) ≤ g_1.fst ∧ g_1.fst ≤ (40 : Int) ∧ (-100 : Int) ≤ g_1.snd ∧ g_1.snd ≤ (100 : Int)) ∧ muOf1 g_1 < n) ∧ True ∧ ((True ∧ (True ∧ True ∧ o - (1 : Int) = g_1.fst) ∧ True ∧ k - (1 : Int) = g_1.snd) ∧ (True ∧ (0 : Nat) = (0 : Nat)) ∧ (True ∧ (0 : Nat) = (0 : Nat)) ∧ True) ∧ ((True ∧ True ∧ True) ∧ (True ∧ True ∧ True ∧ True ∧ (True ∧ True ∧ (0 : Nat) = (0 : Nat)) ∧ True ∧ (0 : Nat) = (0 : Nat)) ∧ (True ∧ ∀ (ks : List Int) (x : Int), x = cI (ks.getD (0 : Nat) (0 : Int)) (ks.getD (1 : Nat) (0 : Int)) → x = cI (ks.getD (0 : Nat) (0 : Int)) (ks.getD (1 : Nat) (0 : Int))) ∧ True) ∧ ((True ∧ True ∧ True) ∧ (True ∧ True ∧ True ∧ True ∧ (True ∧ True ∧ (0 : Nat) = (0 : Nat)) ∧ True ∧ (0 : Nat) = (0 : Nat)) ∧ (True ∧ ∀ (ks : List Int) (x : Int), x = cI (ks.getD (0 : Nat) (0 : Int)) (ks.getD (1 : Nat) (0 : Int)) → x = cI (ks.getD (0 : Nat) (0 : Int)) (ks.getD (1 : Nat) (0 : Int))) ∧ True) ∧ inRange IntKind.i64 (cI g.fst g.snd + cI g_1.fst g_1.snd) ∧ cI g.fst g.snd + cI g_1.fst g_1.snd = cI ([o, k].getD (0 : Nat) (0 : Int)) ([o, k].getD (1 : Nat) (0 : Int)) ∧ inRange IntKind.i64 o ∧ inRange IntKind.i64 k ∧ ((True ∧ True ∧ True) ∧ (True ∧ True ∧ True ∧ True ∧ (True ∧ True ∧ (0 : Nat) = (0 : Nat)) ∧ True ∧ (0 : Nat) = (0 : Nat)) ∧ (True ∧ ∀ (ks : List Int) (x : Int), x = cI (ks.getD (0 : Nat) (0 : Int)) (ks.getD (1 : Nat) (0 : Int)) → x = cI (ks.getD (0 : Nat) (0 : Int)) (ks.getD (1 : Nat) (0 : Int))) ∧ True) ∧ True ∧ cI g.fst g.snd + cI g_1.fst g_1.snd = cI o k) ∧ ((!isSm (ms (2 : Nat) [o, k])) = false → ((True ∧ True ∧ True) ∧ (True ∧ True ∧ True ∧ True ∧ (True ∧ True ∧ (0 : Nat) = (0 : Nat)) ∧ True ∧ (0 : Nat) = (0 : Nat)) ∧ (True ∧ ∀ (ks : List Int) (x : Int), ms ((0 : Nat) + (1 : Nat) + (1 : Nat)) ks = some x → x = cI (ks.getD (0 : Nat) (0 : Int)) (ks.getD (1 : Nat) (0 : Int))) ∧ True) ∧ True ∧ valOf (ms (2 : Nat) [o, k]) = cI o k)))))) (by kernel_rfl) ?_
  have hI : ∀ ks x, ms 2 ks = some x → x = cI (ks.getD 0 0) (ks.getD 1 0) := hm 2 MC Inv rfl
  obtain ⟨h0, h1, h2, h3⟩ : 0 ≤ o ∧ o ≤ 40 ∧ -100 ≤ k ∧ k ≤ 100 := h
  have hmu : o.toNat = n := hn
  simp only [true_and, and_true, inR, Prod.exists, Prod.forall, and_assoc, exists_and_left, exists_eq_left', exists_eq_left, forall_eq, exists_const, forall_const, loopN, loopM, fa2, fas, fas2, dup1, dup2, dup3, dup4, ite_true, exhs, exhn, exhz, exho, exs1, exn1, exz1, exo1, exs2, exn2, exz2, exo2, exs3, exn3, exz3, exo3, exs4, exn4, exz4, exo4, exs5, exn5, exz5, exo5, exs6, exn6, exz6, exo6, exs7, exn7, exz7, exo7, exs8, exn8, exz8, exo8, exs9, exn9, exz9, exo9, ex1, ex2, ex3, ex4, ex5, beqI, bneI, decide_true, Bool.true_and, decide_eq_true_eq, decide_eq_false_iff_not, ne_eq, Decidable.not_not]
  have c := fun (a : 0 < k) (b : k < o) => cI_step (n := o) (k := k) a b
  have c1 := cI_bd (n := o - 1) (k := k) (by omega)
  have c2 := cI_bd (n := o - 1) (k := k - 1) (by omega)
  have mu1 : muOf1 (o - 1, k) = (o - 1).toNat := rfl
  have mu2 : muOf1 (o - 1, k - 1) = (o - 1).toNat := rfl
  refine ⟨fun e => ⟨hI, by subst e; exact cI_zero.symm⟩, fun n0 => ⟨fun e => ⟨hI, ?_⟩, fun n1 => ⟨fun e => ⟨hI, (cI_neg e).symm⟩, fun n2 => ⟨fun e => ⟨hI, (cI_big h0 e).symm⟩, fun n3 => ⟨by omega, by omega, by omega, by omega, fun hm => ?_, fun hm => ⟨hI, ?_⟩⟩⟩⟩⟩⟩
  · have e : o = k := by simpa using e
    subst e
    exact (cI_self h0).symm
  · have n1 : ¬ o = k := by simpa using n1
    have c := c (by omega) (by omega)
    exact ⟨hI, by omega, by omega, is80, o - 1, by omega, by omega, k, by omega, by omega, by omega, rfl, rfl, by omega, by omega, by omega, by omega, is80, o - 1, by omega, by omega, k - 1, by omega, by omega, by omega, rfl, rfl, by omega, by omega, c.symm, by omega, by omega, by omega, by omega, c.symm⟩
  · cases hx : ms 2 [o, k] with
    | none => rw [hx] at hm; simp [isSm] at hm
    | some x => exact hI _ _ hx
theorem r80 : ∀ g, eOf1.ok g → SemK Try.prog E0 80 eOf1.toK g :=
  even_at E0_ok [] SigsOk.nil [] EvensOk.nil runs eOf1 (fun _ => []) (fun _ => []) [] (fun _ => wkOf1) muOf1 (fun n g hg hn ms hm => r80n n g.1 g.2 hg hn ms hm)

def lotTV (N : Nat) : TV := .a 2 (fun j => if j = 0 then .int .i64 N else .mp 0)
def eCount : ESpec where
  γ := Int × Int
  ok g := 0 ≤ g.1 ∧ g.1 ≤ 40 ∧ -100 ≤ g.2 ∧ g.2 ≤ 100
  arg g := [.c (.mp 0), intC g.1, intC g.2]
  hp _ := [(.arg 0, .mpI MC Inv)]
  res g := [intC (cI g.1 g.2)]
def wkAt (f : Nat) : List (Nat × Nat × (St → List (Nat × Blk))) := [(f, 0, fun _ => [(0, .mpI MC Inv)])]
def V1 : List (Nat × ESpec) := [(80, eOf1)]
theorem V1_ok : EvensOk Try.prog E0 V1 := EvensOk.nil.cons r80
theorem r79n (n : Nat) (o k : Int) (h : eCount.ok (o, k)) (ms : Nat → List Int → Option Int) (hm : ∀ j T I, canonHp (eCount.hp (o, k)) j = some (.mpI T I) → ∀ ks x, ms j ks = some x → I ks x) : inlBody (E0.all [] ((79, { eCount with ok := fun g => eCount.ok g ∧ 0 < n }) :: V1) [] [] [] (wkAt 79)) (vc (E0.all [] ((79, { eCount with ok := fun g => eCount.ok g ∧ 0 < n }) :: V1) [] [] [] (wkAt 79)) 6) 79 (eCount.arg (o, k)) (openHp ms (canonHp (eCount.hp (o, k)))) (lenR (eCount.hp (o, k))) [] (fun v hp _ _ => evenFit eCount (o, k) v hp) := by
  refine of_red (q := (True ∧ ∀ (ks : List Int) (x : Int), ms (0 : Nat) ks = some x → x = cI (ks.getD (0 : Nat) (0 : Int)) (ks.getD (1 : Nat) (0 : Int))) ∧ (lookFn fnTab (80 : Nat)).isSome = true ∧ ∃ (g : Int × Int), ((0 : Int) ≤ g.fst ∧ g.fst ≤ (40 : Int) ∧ (-100 : Int) ≤ g.snd ∧ g.snd ≤ (100 : Int)) ∧ True ∧ ((True ∧ (True ∧ True ∧ o = g.fst) ∧ True ∧ k = g.snd) ∧ (True ∧ (0 : Nat) = (0 : Nat)) ∧ (True ∧ (0 : Nat) = (0 : Nat)) ∧ True) ∧ ((True ∧ True ∧ True) ∧ (True ∧ True ∧ True ∧ True ∧ (True ∧ True ∧ (0 : Nat) = (0 : Nat)) ∧ True ∧ (0 : Nat) = (0 : Nat)) ∧ (True ∧ ∀ (ks : List Int) (x : Int), x = cI (ks.getD (0 : Nat) (0 : Int)) (ks.getD (1 : Nat) (0 : Int)) → x = cI (ks.getD (0 : Nat) (0 : Int)) (ks.getD (1 : Nat) (0 : Int))) ∧ True) ∧ ((True ∧ True ∧ True) ∧ (True ∧ True ∧ True ∧ True ∧ (True ∧ True ∧ (0 : Nat) = (0 : Nat)) ∧ True ∧ (0 : Nat) = (0 : Nat)) ∧ (True ∧ ∀ (ks : List Int) (x : Int), x = cI (ks.getD (0 : Nat) (0 : Int)) (ks.getD (1 : Nat) (0 : Int)) → x = cI (ks.getD (0 : Nat) (0 : Int)) (ks.getD (1 : Nat) (0 : Int))) ∧ True) ∧ ((True ∧ ∀ (ks : List Int) (x : Int), x = cI (ks.getD (0 : Nat) (0 : Int)) (ks.getD (1 : Nat) (0 : Int)) → x = cI (ks.getD (0 : Nat) (0 : Int)) (ks.getD (1 : Nat) (0 : Int))) ∧ True) ∧ True ∧ cI g.fst g.snd = cI o k) (by kernel_rfl) ?_
  have hI : ∀ ks x, ms 0 ks = some x → x = cI (ks.getD 0 0) (ks.getD 1 0) := hm 0 MC Inv rfl
  obtain ⟨h0, h1, h2, h3⟩ : 0 ≤ o ∧ o ≤ 40 ∧ -100 ≤ k ∧ k ≤ 100 := h
  simp only [true_and, and_true, inR, Prod.exists, Prod.forall, and_assoc, exists_and_left, exists_eq_left', exists_eq_left, forall_eq, exists_const, forall_const, loopN, loopM, fa2, fas, fas2, dup1, dup2, dup3, dup4, ite_true, exhs, exhn, exhz, exho, exs1, exn1, exz1, exo1, exs2, exn2, exz2, exo2, exs3, exn3, exz3, exo3, exs4, exn4, exz4, exo4, exs5, exn5, exz5, exo5, exs6, exn6, exz6, exo6, exs7, exn7, exz7, exo7, exs8, exn8, exz8, exo8, exs9, exn9, exz9, exo9, ex1, ex2, ex3, ex4, ex5, beqI, bneI, decide_true, Bool.true_and, decide_eq_true_eq, decide_eq_false_iff_not, ne_eq, Decidable.not_not]
  exact ⟨hI, is80, o, h0, h1, k, h2, h3, rfl, rfl, rfl⟩
theorem r79 : ∀ g, eCount.ok g → SemK Try.prog E0 79 eCount.toK g :=
  even_at E0_ok [] SigsOk.nil V1 V1_ok runs eCount (fun _ => []) (fun _ => []) [] (fun _ => wkAt 79) (fun _ => 0) (fun n g hg _ ms hm => r79n n g.1 g.2 hg ms hm)

/-- Found: how many barrels, how many are below, opened, from, to. -/
structure FndIn where
  N : Nat
  b : Nat
  o : Nat
  lo : Nat
  hi : Nat
def fndS (g : FndIn) (j : Nat) : Nat := sN j (fun i => ch g.b (g.lo + i) * ch (g.N - g.b) (g.o - (g.lo + i)))
def eFound : ESpec where
  γ := FndIn
  ok g := g.N ≤ 40 ∧ g.b ≤ g.N ∧ g.o ≤ g.N ∧ g.hi ≤ g.o ∧ g.lo ≤ g.hi + 1
  arg g := [lotTV g.N, intC g.b, intC g.o, intC g.lo, intC g.hi]
  hp _ := [(.argc 0 1, .mpI MC Inv)]
  res g := [twoTV (fnd g.N g.b g.o g.lo g.hi) (ch g.N g.o)]
def aFnd (g : FndIn) : Ann := { G := Nat, ok := fun _ j => j ≤ g.hi + 1 - g.lo, dom := fun _ => [], tm := fun _ j => [(11, .t (intC (fndS g j))), (12, .t (intC (g.lo + j : Nat)))], hp := fun _ _ => [], mu := fun _ j => g.hi + 1 - g.lo - j }
theorem is79 : (lookFn fnTab 79).isSome = true := by kernel_rfl
def V2 : List (Nat × ESpec) := [(79, eCount)]
theorem V2_ok : EvensOk Try.prog E0 V2 := EvensOk.nil.cons r79
theorem r67n (n : Nat) (g : FndIn) (h : eFound.ok g) (ms : Nat → List Int → Option Int) (hm : ∀ j T I, canonHp (eFound.hp g) j = some (.mpI T I) → ∀ ks x, ms j ks = some x → I ks x) : inlBody (E0.all [] ((67, { eFound with ok := fun g => eFound.ok g ∧ 0 < n }) :: V2) [(67, 3, aFnd g)] [] [] (wkAt 67)) (vc (E0.all [] ((67, { eFound with ok := fun g => eFound.ok g ∧ 0 < n }) :: V2) [(67, 3, aFnd g)] [] [] (wkAt 67)) 6) 67 (eFound.arg g) (openHp ms (canonHp (eFound.hp g))) (lenR (eFound.hp g)) [] (fun v hp _ _ => evenFit eFound g v hp) := by
  refine of_red (q := (True ∧ ∀ (ks : List Int) (x : Int), ms (0 : Nat) ks = some x → x = cI (ks.getD (0 : Nat) (0 : Int)) (ks.getD (1 : Nat) (0 : Int))) ∧ (∃ (g_1 : Nat), g_1 ≤ g.hi + (1 : Nat) - g.lo ∧ True ∧ ((True ∧ (0 : Int) = (↑(fndS g g_1) : Int)) ∧ (True ∧ (↑g.lo : Int) = (↑(g.lo + g_1) : Int)) ∧ True) ∧ True) ∧ ∀ (g_1 : Nat), g_1 ≤ g.hi + (1 : Nat) - g.lo → (decide ((↑(g.lo + g_1) : Int) ≤ (↑g.hi : Int)) = true → (lookFn fnTab (79 : Nat)).isSome = true ∧ ∃ (g_2 : Int × Int), ((0 : Int) ≤ g_2.fst ∧ g_2.fst ≤ (40 : Int) ∧ (-100 : Int) ≤ g_2.snd ∧ g_2.snd ≤ (100 : Int)) ∧ True ∧ (True ∧ (True ∧ (↑g.b : Int) = g_2.fst) ∧ (True ∧ (↑(g.lo + g_1) : Int) = g_2.snd) ∧ True) ∧ ((True ∧ ∀ (ks : List Int) (x : Int), x = cI (ks.getD (0 : Nat) (0 : Int)) (ks.getD (1 : Nat) (0 : Int)) → x = cI (ks.getD (0 : Nat) (0 : Int)) (ks.getD (1 : Nat) (0 : Int))) ∧ True) ∧ ((True ∧ ∀ (ks : List Int) (x : Int), x = cI (ks.getD (0 : Nat) (0 : Int)) (ks.getD (1 : Nat) (0 : Int)) → x = cI (ks.getD (0 : Nat) (0 : Int)) (ks.getD (1 : Nat) (0 : Int))) ∧ True) ∧ inRange IntKind.i64 ((↑g.N : Int) - (↑g.b : Int)) ∧ inRange IntKind.i64 ((↑g.o : Int) - (↑(g.lo + g_1) : Int)) ∧ (lookFn fnTab (79 : Nat)).isSome = true ∧ ∃ (g_3 : Int × Int), ((0 : Int) ≤ g_3.fst ∧ g_3.fst ≤ (40 : Int) ∧ (-100 : Int) ≤ g_3.snd ∧ g_3.snd ≤ (100 : Int)) ∧ True ∧ (True ∧ (True ∧ (↑g.N : Int) - (↑g.b : Int) = g_3.fst) ∧ (True ∧ (↑g.o : Int) - (↑(g.lo + g_1) : Int) = g_3.snd) ∧ True) ∧ ((True ∧ ∀ (ks : List Int) (x : Int), x = cI (ks.getD (0 : Nat) (0 : Int)) (ks.getD (1 : Nat) (0 : Int)) → x = cI (ks.getD (0 : Nat) (0 : Int)) (ks.getD (1 : Nat) (0 : Int))) ∧ True) ∧ ((True ∧ ∀ (ks : List Int) (x : Int), x = cI (ks.getD (0 : Nat) (0 : Int)) (ks.getD (1 : Nat) (0 : Int)) → x = cI (ks.getD (0 : Nat) (0 : Int)) (ks.getD (1 : Nat) (0 : Int))) ∧ True) ∧ inRange IntKind.i64 (cI g_2.fst g_2.snd * cI g_3.fst g_3.snd) ∧ inRange IntKind.i64 ((↑(fndS g g_1) : Int) + cI g_2.fst g_2.snd * cI g_3.fst g_3.snd) ∧ inRange IntKind.i64 ((↑(g.lo + g_1) : Int) + (1 : Int)) ∧ ∃ (g' : Nat), g' ≤ g.hi + (1 : Nat) - g.lo ∧ g.hi + (1 : Nat) - g.lo - g' < g.hi + (1 : Nat) - g.lo - g_1 ∧ True ∧ ((True ∧ (↑(fndS g g_1) : Int) + cI g_2.fst g_2.snd * cI g_3.fst g_3.snd = (↑(fndS g g') : Int)) ∧ (True ∧ (↑(g.lo + g_1) : Int) + (1 : Int) = (↑(g.lo + g') : Int)) ∧ True) ∧ True) ∧ (decide ((↑(g.lo + g_1) : Int) ≤ (↑g.hi : Int)) = false → (lookFn fnTab (79 : Nat)).isSome = true ∧ ∃ (g_2 : Int × Int), ((0 : Int) ≤ g_2.fst ∧ g_2.fst ≤ (40 : Int) ∧ (-100 : Int) ≤ g_2.snd ∧ g_2.snd ≤ (100 : Int)) ∧ True ∧ (True ∧ (True ∧ (↑g.N : Int) = g_2.fst) ∧ (True ∧ (↑g.o : Int) = g_2.snd) ∧ True) ∧ ((True ∧ ∀ (ks : List Int) (x : Int), x = cI (ks.getD (0 : Nat) (0 : Int)) (ks.getD (1 : Nat) (0 : Int)) → x = cI (ks.getD (0 : Nat) (0 : Int)) (ks.getD (1 : Nat) (0 : Int))) ∧ True) ∧ ((True ∧ ∀ (ks : List Int) (x : Int), x = cI (ks.getD (0 : Nat) (0 : Int)) (ks.getD (1 : Nat) (0 : Int)) → x = cI (ks.getD (0 : Nat) (0 : Int)) (ks.getD (1 : Nat) (0 : Int))) ∧ True) ∧ ((True ∧ ∀ (ks : List Int) (x : Int), x = cI (ks.getD (0 : Nat) (0 : Int)) (ks.getD (1 : Nat) (0 : Int)) → x = cI (ks.getD (0 : Nat) (0 : Int)) (ks.getD (1 : Nat) (0 : Int))) ∧ True) ∧ True ∧ (True ∧ True ∧ (↑(fndS g g_1) : Int) = (↑(fnd g.N g.b g.o g.lo g.hi) : Int)) ∧ True ∧ cI g_2.fst g_2.snd = (↑(ch g.N g.o) : Int))) (by kernel_rfl) ?_
  have hI : ∀ ks x, ms 0 ks = some x → x = cI (ks.getD 0 0) (ks.getD 1 0) := hm 0 MC Inv rfl
  obtain ⟨N, b, o, lo, hi⟩ := g
  obtain ⟨h0, h1, h2, h3, h4⟩ : N ≤ 40 ∧ b ≤ N ∧ o ≤ N ∧ hi ≤ o ∧ lo ≤ hi + 1 := h
  simp only [true_and, and_true, inR, Prod.exists, Prod.forall, and_assoc, exists_and_left, exists_eq_left', exists_eq_left, forall_eq, exists_const, forall_const, loopN, loopM, fa2, fas, fas2, dup1, dup2, dup3, dup4, ite_true, exhs, exhn, exhz, exho, exs1, exn1, exz1, exo1, exs2, exn2, exz2, exo2, exs3, exn3, exz3, exo3, exs4, exn4, exz4, exo4, exs5, exn5, exz5, exo5, exs6, exn6, exz6, exo6, exs7, exn7, exz7, exo7, exs8, exn8, exz8, exo8, exs9, exn9, exz9, exo9, ex1, ex2, ex3, ex4, ex5, beqI, bneI, decide_true, Bool.true_and, decide_eq_true_eq, decide_eq_false_iff_not, ne_eq, Decidable.not_not]
  have top := fnd_le (N := N) (b := b) (o := o) (lo := lo) (hi := hi) h1 h3
  have top2 := ch_le (n := N) (k := o) h0
  have mono : ∀ j, j ≤ hi + 1 - lo → fndS ⟨N, b, o, lo, hi⟩ j ≤ fnd N b o lo hi := fun j hj => sN_mono hj
  refine ⟨hI, ⟨0, Nat.zero_le _, rfl, rfl⟩, fun j hj => ⟨fun hlt => ?_, fun hlt => ?_⟩⟩
  · have e1 : fndS ⟨N, b, o, lo, hi⟩ (j + 1) = fndS ⟨N, b, o, lo, hi⟩ j + ch b (lo + j) * ch (N - b) (o - (lo + j)) := rfl
    have e2 := mono (j + 1) (by omega)
    have c1 : cI (b : Int) ((lo + j : Nat) : Int) * cI ((N : Int) - b) ((o : Int) - ((lo + j : Nat) : Int)) = ((ch b (lo + j) * ch (N - b) (o - (lo + j)) : Nat) : Int) := by
      rw [show (N : Int) - b = ((N - b : Nat) : Int) by omega, show (o : Int) - ((lo + j : Nat) : Int) = ((o - (lo + j) : Nat) : Int) by omega, cI_nat, cI_nat]
      exact (Int.natCast_mul _ _).symm
    generalize ch b (lo + j) * ch (N - b) (o - (lo + j)) = T at e1 c1
    exact ⟨is79, _, by omega, by omega, _, by omega, by omega, rfl, rfl, by omega, by omega, by omega, by omega, is79, _, by omega, by omega, _, by omega, by omega, rfl, rfl, by omega, by omega, by omega, by omega, by omega, by omega, j + 1, by omega, by omega, by omega, by omega⟩
  · obtain rfl : j = hi + 1 - lo := by omega
    exact ⟨is79, _, by omega, by omega, _, by omega, by omega, rfl, rfl, rfl, cI_nat N o⟩
theorem r67 : ∀ g, eFound.ok g → SemK Try.prog E0 67 eFound.toK g :=
  even_at E0_ok [] SigsOk.nil V2 V2_ok runs eFound (fun g => [(67, 3, aFnd g)]) (fun _ => []) [] (fun _ => wkAt 67) (fun _ => 0) (fun n g hg _ ms hm => r67n n g hg ms hm)
end Go.Proofs.Ythcplmlkgaiggaa
