/- Contracts: does a plan keep a rule; odds (program, reference). -/
import Derived.Test.YthcplmlkgaiggaaBxB
set_option linter.unusedSimpArgs false
set_option linter.unusedVariables false
namespace Go.Proofs.Ythcplmlkgaiggaa
open Go Go.Sx Bm
set_option maxRecDepth 100000

def TC : List (Nat × Sig) := (58, sFnd) :: TB
theorem TC_ok : SigsOk Try.prog E0 TC := TB_ok.cons (runs 58 (by kernel_rfl)) q58
theorem is54 : (lookFn fnTab 54).isSome = true := by kernel_rfl
theorem is61 : (lookFn fnTab 61).isSome = true := by kernel_rfl
theorem is67 : (lookFn fnTab 67).isSome = true := by kernel_rfl
theorem is75 : (lookFn fnTab 75).isSome = true := by kernel_rfl
/-- The map of a lot that is in a variable. -/
def mapN (t : Nat) (st : St) : List (Nat × Blk) := match st.tm t with
  | .t (.c (.ptr n _)) => (match st.hp n with
    | some (.box _ g) => (match g 1 with | .mp m => [(m, .mpI MC Inv)] | _ => [])
    | _ => [])
  | _ => []
def V4 : List (Nat × ESpec) := (75, eRule) :: (54, ePlan) :: V3
theorem V4_ok : EvensOk Try.prog E0 V4 := (V3_ok.cons r54).cons r75
structure KeepIn where
  N : Nat
  o : Nat
  a : Nat
  r : Nat → Int
structure KeepIn.wf (g : KeepIn) : Prop where
  N : g.N ≤ 40
  o : g.o ≤ g.N
  a : g.a ≤ g.o
  rule : ruleOk g.N g.r = true
def eKeeps : ESpec where
  γ := KeepIn
  ok g := g.wf
  arg g := [lotTV g.N, arrTV 6 g.r, twoTV g.o g.a]
  hp _ := [(.argc 0 1, .mpI MC Inv)]
  res g := [.c (.bool (keeps g.N g.o g.a g.r))]
def aKee (t : Nat) (g : KeepIn) : Ann := { G := Nat, ok := fun _ j => j ≤ g.N + 1 ∧ allB j (keep1 g.N g.o g.a g.r) = true, dom := fun _ => [], tm := fun _ j => [(t, .t (intC j))], hp := fun _ _ => [], mu := fun _ j => g.N + 1 - j }
theorem r61n (n : Nat) (g : KeepIn) (h : eKeeps.ok g) (ms : Nat → List Int → Option Int) (hm : ∀ j T I, canonHp (eKeeps.hp g) j = some (.mpI T I) → ∀ ks x, ms j ks = some x → I ks x) : inlBody (E0.all TC ((61, { eKeeps with ok := fun g => eKeeps.ok g ∧ 0 < n }) :: V4) [(61, 2, aKee 12 g)] [] [] (wkAt 61)) (vc (E0.all TC ((61, { eKeeps with ok := fun g => eKeeps.ok g ∧ 0 < n }) :: V4) [(61, 2, aKee 12 g)] [] [] (wkAt 61)) 6) 61 (eKeeps.arg g) (openHp ms (canonHp (eKeeps.hp g))) (lenR (eKeeps.hp g)) [] (fun v hp _ _ => evenFit eKeeps g v hp) := by
  refine of_red (q := (True ∧ ∀ (ks : List Int) (x : Int), ms (0 : Nat) ks = some x → x = cI (ks.getD (0 : Nat) (0 : Int)) (ks.getD (1 : Nat) (0 : Int))) ∧ inRange IntKind.i64 ((↑g.N : Int) + (1 : Int)) ∧ (∃ (g_1 : Nat), (g_1 ≤ g.N + (1 : Nat) ∧ allB g_1 (keep1 g.N g.o g.a g.r) = true) ∧ True ∧ ((True ∧ (0 : Int) = (↑g_1 : Int)) ∧ True) ∧ True) ∧ ∀ (g_1 : Nat), g_1 ≤ g.N + (1 : Nat) ∧ allB g_1 (keep1 g.N g.o g.a g.r) = true → (decide ((↑g_1 : Int) < (↑g.N : Int) + (1 : Int)) = true → (lookFn fnTab (67 : Nat)).isSome = true ∧ ∃ (g_2 : FndIn), (g_2.N ≤ (40 : Nat) ∧ g_2.b ≤ g_2.N ∧ g_2.o ≤ g_2.N ∧ g_2.hi ≤ g_2.o ∧ g_2.lo ≤ g_2.hi + (1 : Nat)) ∧ True ∧ ((True ∧ (True ∧ True ∧ (↑g.N : Int) = (↑g_2.N : Int)) ∧ True) ∧ (True ∧ (↑g_1 : Int) = (↑g_2.b : Int)) ∧ (True ∧ (↑g.o : Int) = (↑g_2.o : Int)) ∧ (True ∧ (0 : Int) = (↑g_2.lo : Int)) ∧ (True ∧ (↑g.a : Int) = (↑g_2.hi : Int)) ∧ True) ∧ ((True ∧ ∀ (ks : List Int) (x : Int), x = cI (ks.getD (0 : Nat) (0 : Int)) (ks.getD (1 : Nat) (0 : Int)) → x = cI (ks.getD (0 : Nat) (0 : Int)) (ks.getD (1 : Nat) (0 : Int))) ∧ True) ∧ ((True ∧ ∀ (ks : List Int) (x : Int), x = cI (ks.getD (0 : Nat) (0 : Int)) (ks.getD (1 : Nat) (0 : Int)) → x = cI (ks.getD (0 : Nat) (0 : Int)) (ks.getD (1 : Nat) (0 : Int))) ∧ True) ∧ (decide ((↑g_1 : Int) ≤ g.r (0 : Nat)) = true → inRange IntKind.i64 ((↑(fnd g_2.N g_2.b g_2.o g_2.lo g_2.hi) : Int) * g.r ((0 : Nat) + (nat_lit 0 + (1 : Nat)) + (nat_lit 0 + (1 : Nat)))) ∧ inRange IntKind.i64 (g.r ((0 : Nat) + (nat_lit 0 + (1 : Nat))) * (↑(ch g_2.N g_2.o) : Int)) ∧ inRange IntKind.i64 ((↑(fnd g_2.N g_2.b g_2.o g_2.lo g_2.hi) : Int) * g.r ((0 : Nat) + (nat_lit 0 + (1 : Nat)) + (nat_lit 0 + (1 : Nat))) - g.r ((0 : Nat) + (nat_lit 0 + (1 : Nat))) * (↑(ch g_2.N g_2.o) : Int)) ∧ (decide ((↑(fnd g_2.N g_2.b g_2.o g_2.lo g_2.hi) : Int) * g.r ((0 : Nat) + (nat_lit 0 + (1 : Nat)) + (nat_lit 0 + (1 : Nat))) - g.r ((0 : Nat) + (nat_lit 0 + (1 : Nat))) * (↑(ch g_2.N g_2.o) : Int) < (0 : Int)) = true → ((True ∧ ∀ (ks : List Int) (x : Int), x = cI (ks.getD (0 : Nat) (0 : Int)) (ks.getD (1 : Nat) (0 : Int)) → x = cI (ks.getD (0 : Nat) (0 : Int)) (ks.getD (1 : Nat) (0 : Int))) ∧ True) ∧ True ∧ keeps g.N g.o g.a g.r = false) ∧ (decide ((↑(fnd g_2.N g_2.b g_2.o g_2.lo g_2.hi) : Int) * g.r ((0 : Nat) + (nat_lit 0 + (1 : Nat)) + (nat_lit 0 + (1 : Nat))) - g.r ((0 : Nat) + (nat_lit 0 + (1 : Nat))) * (↑(ch g_2.N g_2.o) : Int) < (0 : Int)) = false → (decide (g.r ((0 : Nat) + (nat_lit 2 + (1 : Nat))) ≤ (↑g_1 : Int)) = true → inRange IntKind.i64 ((↑(fnd g_2.N g_2.b g_2.o g_2.lo g_2.hi) : Int) * g.r ((0 : Nat) + (nat_lit 0 + (1 : Nat)) + (nat_lit 3 + (1 : Nat)))) ∧ inRange IntKind.i64 (g.r ((0 : Nat) + (nat_lit 3 + (1 : Nat))) * (↑(ch g_2.N g_2.o) : Int)) ∧ inRange IntKind.i64 ((↑(fnd g_2.N g_2.b g_2.o g_2.lo g_2.hi) : Int) * g.r ((0 : Nat) + (nat_lit 0 + (1 : Nat)) + (nat_lit 3 + (1 : Nat))) - g.r ((0 : Nat) + (nat_lit 3 + (1 : Nat))) * (↑(ch g_2.N g_2.o) : Int)) ∧ (decide ((0 : Int) < (↑(fnd g_2.N g_2.b g_2.o g_2.lo g_2.hi) : Int) * g.r ((0 : Nat) + (nat_lit 0 + (1 : Nat)) + (nat_lit 3 + (1 : Nat))) - g.r ((0 : Nat) + (nat_lit 3 + (1 : Nat))) * (↑(ch g_2.N g_2.o) : Int)) = true → ((True ∧ ∀ (ks : List Int) (x : Int), x = cI (ks.getD (0 : Nat) (0 : Int)) (ks.getD (1 : Nat) (0 : Int)) → x = cI (ks.getD (0 : Nat) (0 : Int)) (ks.getD (1 : Nat) (0 : Int))) ∧ True) ∧ True ∧ keeps g.N g.o g.a g.r = false) ∧ (decide ((0 : Int) < (↑(fnd g_2.N g_2.b g_2.o g_2.lo g_2.hi) : Int) * g.r ((0 : Nat) + (nat_lit 0 + (1 : Nat)) + (nat_lit 3 + (1 : Nat))) - g.r ((0 : Nat) + (nat_lit 3 + (1 : Nat))) * (↑(ch g_2.N g_2.o) : Int)) = false → inRange IntKind.i64 ((↑g_1 : Int) + (1 : Int)) ∧ ∃ (g' : Nat), (g' ≤ g.N + (1 : Nat) ∧ allB g' (keep1 g.N g.o g.a g.r) = true) ∧ g.N + (1 : Nat) - g' < g.N + (1 : Nat) - g_1 ∧ True ∧ ((True ∧ (↑g_1 : Int) + (1 : Int) = (↑g' : Int)) ∧ True) ∧ True)) ∧ (decide (g.r ((0 : Nat) + (nat_lit 2 + (1 : Nat))) ≤ (↑g_1 : Int)) = false → inRange IntKind.i64 ((↑g_1 : Int) + (1 : Int)) ∧ ∃ (g' : Nat), (g' ≤ g.N + (1 : Nat) ∧ allB g' (keep1 g.N g.o g.a g.r) = true) ∧ g.N + (1 : Nat) - g' < g.N + (1 : Nat) - g_1 ∧ True ∧ ((True ∧ (↑g_1 : Int) + (1 : Int) = (↑g' : Int)) ∧ True) ∧ True))) ∧ (decide ((↑g_1 : Int) ≤ g.r (0 : Nat)) = false → (decide (g.r ((0 : Nat) + (nat_lit 2 + (1 : Nat))) ≤ (↑g_1 : Int)) = true → inRange IntKind.i64 ((↑(fnd g_2.N g_2.b g_2.o g_2.lo g_2.hi) : Int) * g.r ((0 : Nat) + (nat_lit 0 + (1 : Nat)) + (nat_lit 3 + (1 : Nat)))) ∧ inRange IntKind.i64 (g.r ((0 : Nat) + (nat_lit 3 + (1 : Nat))) * (↑(ch g_2.N g_2.o) : Int)) ∧ inRange IntKind.i64 ((↑(fnd g_2.N g_2.b g_2.o g_2.lo g_2.hi) : Int) * g.r ((0 : Nat) + (nat_lit 0 + (1 : Nat)) + (nat_lit 3 + (1 : Nat))) - g.r ((0 : Nat) + (nat_lit 3 + (1 : Nat))) * (↑(ch g_2.N g_2.o) : Int)) ∧ (decide ((0 : Int) < (↑(fnd g_2.N g_2.b g_2.o g_2.lo g_2.hi) : Int) * g.r ((0 : Nat) + (nat_lit 0 + (1 : Nat)) + (nat_lit 3 + (1 : Nat))) - g.r ((0 : Nat) + (nat_lit 3 + (1 : Nat))) * (↑(ch g_2.N g_2.o) : Int)) = true → ((True ∧ ∀ (ks : List Int) (x : Int), x = cI (ks.getD (0 : Nat) (0 : Int)) (ks.getD (1 : Nat) (0 : Int)) → x = cI (ks.getD (0 : Nat) (0 : Int)) (ks.getD (1 : Nat) (0 : Int))) ∧ True) ∧ True ∧ keeps g.N g.o g.a g.r = false) ∧ (decide ((0 : Int) < (↑(fnd g_2.N g_2.b g_2.o g_2.lo g_2.hi) : Int) * g.r ((0 : Nat) + (nat_lit 0 + (1 : Nat)) + (nat_lit 3 + (1 : Nat))) - g.r ((0 : Nat) + (nat_lit 3 + (1 : Nat))) * (↑(ch g_2.N g_2.o) : Int)) = false → inRange IntKind.i64 ((↑g_1 : Int) + (1 : Int)) ∧ ∃ (g' : Nat), (g' ≤ g.N + (1 : Nat) ∧ allB g' (keep1 g.N g.o g.a g.r) = true) ∧ g.N + (1 : Nat) - g' < g.N + (1 : Nat) - g_1 ∧ True ∧ ((True ∧ (↑g_1 : Int) + (1 : Int) = (↑g' : Int)) ∧ True) ∧ True)) ∧ (decide (g.r ((0 : Nat) + (nat_lit 2 + (1 : Nat))) ≤ (↑g_1 : Int)) = false → inRange IntKind.i64 ((↑g_1 : Int) + (1 : Int)) ∧ ∃ (g' : Nat), (g' ≤ g.N + (1 : Nat) ∧ allB g' (keep1 g.N g.o g.a g.r) = true) ∧ g.N + (1 : Nat) - g' < g.N + (1 : Nat) - g_1 ∧ True ∧ ((True ∧ (↑g_1 : Int) + (1 : Int) = (↑g' : Int)) ∧ True) ∧ True))) ∧ (decide ((↑g_1 : Int) < (↑g.N : Int) + (1 : Int)) = false → ((True ∧ ∀ (ks : List Int) (x : Int), x = cI (ks.getD (0 : Nat) (0 : Int)) (ks.getD (1 : Nat) (0 : Int)) → x = cI (ks.getD (0 : Nat) (0 : Int)) (ks.getD (1 : Nat) (0 : Int))) ∧ True) ∧ True ∧ keeps g.N g.o g.a g.r = true)) (by kernel_rfl) ?_
  have hI : ∀ ks x, ms 0 ks = some x → x = cI (ks.getD 0 0) (ks.getD 1 0) := hm 0 MC Inv rfl
  obtain ⟨N, o, a, r⟩ := g
  obtain ⟨h0, h1, h2, h3⟩ := h
  have h0 : N ≤ 40 := h0
  have h1 : o ≤ N := h1
  have h2 : a ≤ o := h2
  have h3 : ruleOk N r = true := h3
  simp only [true_and, and_true, inR, Prod.exists, Prod.forall, and_assoc, exists_and_left, exists_eq_left', exists_eq_left, forall_eq, exists_const, forall_const, loopN, loopM, fa2, fas, fas2, dup1, dup2, dup3, dup4, ite_true, exhs, exhn, exhz, exho, exs1, exn1, exz1, exo1, exs2, exn2, exz2, exo2, exs3, exn3, exz3, exo3, exs4, exn4, exz4, exo4, exs5, exn5, exz5, exo5, exs6, exn6, exz6, exo6, exs7, exn7, exz7, exo7, exs8, exn8, exz8, exo8, exs9, exn9, exz9, exo9, ex1, ex2, ex3, ex4, ex5, beqI, bneI, decide_true, Bool.true_and, decide_eq_true_eq, decide_eq_false_iff_not, ne_eq, Decidable.not_not]
  have rb := rule_bd h3
  have cb := ch_le (n := N) (k := o) h0
  have c0 := ch_pos (n := N) (k := o) h1
  refine ⟨hI, by omega, by omega, by omega, rfl, fun j ⟨hj, hall⟩ => ⟨fun hlt => ⟨is67, ⟨N, j, o, 0, a⟩, h0, by show j ≤ N; omega, h1, h2, Nat.zero_le _, rfl, rfl, rfl, rfl, rfl, ?_⟩, fun hge => ?_⟩⟩
  · have hlt : (j : Int) < (N : Int) + 1 := hlt
    have fb := F_le (N := N) (b := j) (o := o) (a := a) (by omega) h2
    have kf : Brk r j (F N j o a) (ch N o) → keeps N o a r = false := keeps_not (by omega)
    have kt : ¬ Brk r j (F N j o a) (ch N o) → allB (j + 1) (keep1 N o a r) = true := keeps_step hall
    simp only [fnd_F]
    generalize F N j o a = X at fb kf kt ⊢
    generalize ch N o = Y at fb cb c0 kf kt ⊢
    have p1 := prod_bd (a := X) (b := r 2) (by omega) (by omega) (by omega) (by omega)
    have p2 := prod_bd (a := Y) (b := r 1) (by omega) (by omega) (by omega) (by omega)
    have p3 := prod_bd (a := X) (b := r 5) (by omega) (by omega) (by omega) (by omega)
    have p4 := prod_bd (a := Y) (b := r 4) (by omega) (by omega) (by omega) (by omega)
    rw [Int.mul_comm] at p2 p4
    unfold Brk at kf kt
    simp only [Nat.zero_add, Nat.reduceAdd]
    generalize (X : Int) * r 2 = P1 at *
    generalize r 1 * (Y : Int) = P2 at *
    generalize (X : Int) * r 5 = P3 at *
    generalize r 4 * (Y : Int) = P4 at *
    have nxt : ¬ ((j : Int) ≤ r 0 ∧ P1 < P2 ∨ r 3 ≤ (j : Int) ∧ P4 < P3) → -9223372036854775808 ≤ (j : Int) + 1 ∧ (j : Int) + 1 ≤ 9223372036854775807 ∧ j + 1 ≤ N + 1 ∧ allB (j + 1) (keep1 N o a r) = true ∧ N + 1 - (j + 1) < N + 1 - j := fun h => ⟨by omega, by omega, by omega, kt h, by omega⟩
    exact ⟨fun c1 => ⟨by omega, by omega, by omega, by omega, by omega, by omega, fun c2 => kf (by omega), fun c2 => ⟨fun c3 => ⟨by omega, by omega, by omega, by omega, by omega, by omega, fun c4 => kf (by omega), fun c4 => nxt (by omega)⟩, fun c3 => nxt (by omega)⟩⟩, fun c1 => ⟨fun c3 => ⟨by omega, by omega, by omega, by omega, by omega, by omega, fun c4 => kf (by omega), fun c4 => nxt (by omega)⟩, fun c3 => nxt (by omega)⟩⟩
  · obtain rfl : j = N + 1 := by omega
    exact hall
theorem r61 : ∀ g, eKeeps.ok g → SemK Try.prog E0 61 eKeeps.toK g :=
  even_at E0_ok TC TC_ok V4 V4_ok runs eKeeps (fun g => [(61, 2, aKee 12 g)]) (fun g => []) [] (fun _ => wkAt 61) (fun _ => 0) (fun n g hg _ ms hm => r61n n g hg ms hm)

def sKeepR : Sig := ⟨KeepIn, fun g => [intC g.N, arrTV 6 g.r, twoTV g.o g.a], fun g => g.wf, fun g => [.v (.c (.bool (keeps g.N g.o g.a g.r)))]⟩
theorem q63 (g : sKeepR.α) (h : sKeepR.pre g) : CallQ Try.prog E0 63 (sKeepR.arg g) (sKeepR.res g) := by
  refine bare_all E0_ok TC TC_ok V4 V4_ok runs [(63, 3, aKee 8 g)] [] [] [] (fuel := 5) ?_
  refine of_red (q := ∃ (x : Nat × Int), ((True ∧ (↑g.N : Int) = (↑x.fst : Int)) ∧ (True ∧ (↑g.o : Int) = x.snd) ∧ True) ∧ (x.fst ≤ (40 : Nat) ∧ (-100 : Int) ≤ x.snd ∧ x.snd ≤ (100 : Int)) ∧ (∃ (g_1 : Nat), (g_1 ≤ g.N + (1 : Nat) ∧ allB g_1 (keep1 g.N g.o g.a g.r) = true) ∧ True ∧ ((True ∧ (0 : Int) = (↑g_1 : Int)) ∧ True) ∧ True) ∧ ∀ (g_1 : Nat), g_1 ≤ g.N + (1 : Nat) ∧ allB g_1 (keep1 g.N g.o g.a g.r) = true → (decide ((↑g_1 : Int) ≤ (↑g.N : Int)) = true → ∃ (x_1 : FndIn), ((True ∧ (↑g.N : Int) = (↑x_1.N : Int)) ∧ (True ∧ (↑g_1 : Int) = (↑x_1.b : Int)) ∧ (True ∧ (↑g.o : Int) = (↑x_1.o : Int)) ∧ (True ∧ (0 : Int) = (↑x_1.lo : Int)) ∧ (True ∧ (↑g.a : Int) = (↑x_1.hi : Int)) ∧ True) ∧ (x_1.N ≤ (40 : Nat) ∧ x_1.b ≤ x_1.N ∧ x_1.o ≤ x_1.N ∧ x_1.hi ≤ x_1.o ∧ x_1.lo ≤ x_1.hi + (1 : Nat)) ∧ (decide ((↑g_1 : Int) ≤ g.r (0 : Nat)) = true → inRange IntKind.i64 ((↑(fnd x_1.N x_1.b x_1.o x_1.lo x_1.hi) : Int) * g.r ((0 : Nat) + (nat_lit 1 + (1 : Nat)))) ∧ inRange IntKind.i64 (g.r ((0 : Nat) + (nat_lit 0 + (1 : Nat))) * cI (↑x.fst : Int) x.snd) ∧ (decide ((↑(fnd x_1.N x_1.b x_1.o x_1.lo x_1.hi) : Int) * g.r ((0 : Nat) + (nat_lit 1 + (1 : Nat))) < g.r ((0 : Nat) + (nat_lit 0 + (1 : Nat))) * cI (↑x.fst : Int) x.snd) = true → True ∧ keeps g.N g.o g.a g.r = false) ∧ (decide ((↑(fnd x_1.N x_1.b x_1.o x_1.lo x_1.hi) : Int) * g.r ((0 : Nat) + (nat_lit 1 + (1 : Nat))) < g.r ((0 : Nat) + (nat_lit 0 + (1 : Nat))) * cI (↑x.fst : Int) x.snd) = false → (decide (g.r ((0 : Nat) + (nat_lit 2 + (1 : Nat))) ≤ (↑g_1 : Int)) = true → inRange IntKind.i64 ((↑(fnd x_1.N x_1.b x_1.o x_1.lo x_1.hi) : Int) * g.r ((0 : Nat) + (nat_lit 4 + (1 : Nat)))) ∧ inRange IntKind.i64 (g.r ((0 : Nat) + (nat_lit 3 + (1 : Nat))) * cI (↑x.fst : Int) x.snd) ∧ (decide (g.r ((0 : Nat) + (nat_lit 3 + (1 : Nat))) * cI (↑x.fst : Int) x.snd < (↑(fnd x_1.N x_1.b x_1.o x_1.lo x_1.hi) : Int) * g.r ((0 : Nat) + (nat_lit 4 + (1 : Nat)))) = true → True ∧ keeps g.N g.o g.a g.r = false) ∧ (decide (g.r ((0 : Nat) + (nat_lit 3 + (1 : Nat))) * cI (↑x.fst : Int) x.snd < (↑(fnd x_1.N x_1.b x_1.o x_1.lo x_1.hi) : Int) * g.r ((0 : Nat) + (nat_lit 4 + (1 : Nat)))) = false → inRange IntKind.i64 ((↑g_1 : Int) + (1 : Int)) ∧ ∃ (g' : Nat), (g' ≤ g.N + (1 : Nat) ∧ allB g' (keep1 g.N g.o g.a g.r) = true) ∧ g.N + (1 : Nat) - g' < g.N + (1 : Nat) - g_1 ∧ True ∧ ((True ∧ (↑g_1 : Int) + (1 : Int) = (↑g' : Int)) ∧ True) ∧ True)) ∧ (decide (g.r ((0 : Nat) + (nat_lit 2 + (1 : Nat))) ≤ (↑g_1 : Int)) = false → inRange IntKind.i64 ((↑g_1 : Int) + (1 : Int)) ∧ ∃ (g' : Nat), (g' ≤ g.N + (1 : Nat) ∧ allB g' (keep1 g.N g.o g.a g.r) = true) ∧ g.N + (1 : Nat) - g' < g.N + (1 : Nat) - g_1 ∧ True ∧ ((True ∧ (↑g_1 : Int) + (1 : Int) = (↑g' : Int)) ∧ True) ∧ True))) ∧ (decide ((↑g_1 : Int) ≤ g.r (0 : Nat)) = false → (decide (g.r ((0 : Nat) + (nat_lit 2 + (1 : Nat))) ≤ (↑g_1 : Int)) = true → inRange IntKind.i64 ((↑(fnd x_1.N x_1.b x_1.o x_1.lo x_1.hi) : Int) * g.r ((0 : Nat) + (nat_lit 4 + (1 : Nat)))) ∧ inRange IntKind.i64 (g.r ((0 : Nat) + (nat_lit 3 + (1 : Nat))) * cI (↑x.fst : Int) x.snd) ∧ (decide (g.r ((0 : Nat) + (nat_lit 3 + (1 : Nat))) * cI (↑x.fst : Int) x.snd < (↑(fnd x_1.N x_1.b x_1.o x_1.lo x_1.hi) : Int) * g.r ((0 : Nat) + (nat_lit 4 + (1 : Nat)))) = true → True ∧ keeps g.N g.o g.a g.r = false) ∧ (decide (g.r ((0 : Nat) + (nat_lit 3 + (1 : Nat))) * cI (↑x.fst : Int) x.snd < (↑(fnd x_1.N x_1.b x_1.o x_1.lo x_1.hi) : Int) * g.r ((0 : Nat) + (nat_lit 4 + (1 : Nat)))) = false → inRange IntKind.i64 ((↑g_1 : Int) + (1 : Int)) ∧ ∃ (g' : Nat), (g' ≤ g.N + (1 : Nat) ∧ allB g' (keep1 g.N g.o g.a g.r) = true) ∧ g.N + (1 : Nat) - g' < g.N + (1 : Nat) - g_1 ∧ True ∧ ((True ∧ (↑g_1 : Int) + (1 : Int) = (↑g' : Int)) ∧ True) ∧ True)) ∧ (decide (g.r ((0 : Nat) + (nat_lit 2 + (1 : Nat))) ≤ (↑g_1 : Int)) = false → inRange IntKind.i64 ((↑g_1 : Int) + (1 : Int)) ∧ ∃ (g' : Nat), (g' ≤ g.N + (1 : Nat) ∧ allB g' (keep1 g.N g.o g.a g.r) = true) ∧ g.N + (1 : Nat) - g' < g.N + (1 : Nat) - g_1 ∧ True ∧ ((True ∧ (↑g_1 : Int) + (1 : Int) = (↑g' : Int)) ∧ True) ∧ True))) ∧ (decide ((↑g_1 : Int) ≤ (↑g.N : Int)) = false → True ∧ keeps g.N g.o g.a g.r = true)) (by kernel_rfl) ?_
  obtain ⟨N, o, a, r⟩ := g
  obtain ⟨h0, h1, h2, h3⟩ := h
  have h0 : N ≤ 40 := h0
  have h1 : o ≤ N := h1
  have h2 : a ≤ o := h2
  have h3 : ruleOk N r = true := h3
  simp only [true_and, and_true, inR, Prod.exists, Prod.forall, and_assoc, exists_and_left, exists_eq_left', exists_eq_left, forall_eq, exists_const, forall_const, loopN, loopM, fa2, fas, fas2, dup1, dup2, dup3, dup4, ite_true, exhs, exhn, exhz, exho, exs1, exn1, exz1, exo1, exs2, exn2, exz2, exo2, exs3, exn3, exz3, exo3, exs4, exn4, exz4, exo4, exs5, exn5, exz5, exo5, exs6, exn6, exz6, exo6, exs7, exn7, exz7, exo7, exs8, exn8, exz8, exo8, exs9, exn9, exz9, exo9, ex1, ex2, ex3, ex4, ex5, beqI, bneI, decide_true, Bool.true_and, decide_eq_true_eq, decide_eq_false_iff_not, ne_eq, Decidable.not_not]
  have rb := rule_bd h3
  have cb := ch_le (n := N) (k := o) h0
  have c0 := ch_pos (n := N) (k := o) h1
  refine ⟨h0, by omega, by omega, by omega, rfl, fun j ⟨hj, hall⟩ => ⟨fun hlt => ⟨⟨N, j, o, 0, a⟩, rfl, rfl, rfl, rfl, rfl, h0, by show j ≤ N; omega, h1, h2, Nat.zero_le _, ?_⟩, fun hge => ?_⟩⟩
  · have hlt : (j : Int) ≤ (N : Int) := hlt
    have fb := F_le (N := N) (b := j) (o := o) (a := a) (by omega) h2
    have kf : Brk r j (F N j o a) (ch N o) → keeps N o a r = false := keeps_not (by omega)
    have kt : ¬ Brk r j (F N j o a) (ch N o) → allB (j + 1) (keep1 N o a r) = true := keeps_step hall
    simp only [fnd_F, cI_nat]
    generalize F N j o a = X at fb kf kt ⊢
    generalize ch N o = Y at fb cb c0 kf kt ⊢
    have p1 := prod_bd (a := X) (b := r 2) (by omega) (by omega) (by omega) (by omega)
    have p2 := prod_bd (a := Y) (b := r 1) (by omega) (by omega) (by omega) (by omega)
    have p3 := prod_bd (a := X) (b := r 5) (by omega) (by omega) (by omega) (by omega)
    have p4 := prod_bd (a := Y) (b := r 4) (by omega) (by omega) (by omega) (by omega)
    rw [Int.mul_comm] at p2 p4
    unfold Brk at kf kt
    simp only [Nat.zero_add, Nat.reduceAdd]
    generalize (X : Int) * r 2 = P1 at *
    generalize r 1 * (Y : Int) = P2 at *
    generalize (X : Int) * r 5 = P3 at *
    generalize r 4 * (Y : Int) = P4 at *
    have nxt : ¬ ((j : Int) ≤ r 0 ∧ P1 < P2 ∨ r 3 ≤ (j : Int) ∧ P4 < P3) → -9223372036854775808 ≤ (j : Int) + 1 ∧ (j : Int) + 1 ≤ 9223372036854775807 ∧ j + 1 ≤ N + 1 ∧ allB (j + 1) (keep1 N o a r) = true ∧ N + 1 - (j + 1) < N + 1 - j := fun h => ⟨by omega, by omega, by omega, kt h, by omega⟩
    exact ⟨fun c1 => ⟨by omega, by omega, by omega, by omega, fun c2 => kf (by omega), fun c2 => ⟨fun c3 => ⟨by omega, by omega, by omega, by omega, fun c4 => kf (by omega), fun c4 => nxt (by omega)⟩, fun c3 => nxt (by omega)⟩⟩, fun c1 => ⟨fun c3 => ⟨by omega, by omega, by omega, by omega, fun c4 => kf (by omega), fun c4 => nxt (by omega)⟩, fun c3 => nxt (by omega)⟩⟩
  · obtain rfl : j = N + 1 := by omega
    exact hall
def sPlan : Sig := ⟨Int × Int × Int, fun g => [intC g.1, twoTV g.2.1 g.2.2], fun _ => True, fun g => [.v (.c (.bool (planOk g.1 g.2.1 g.2.2)))]⟩
theorem q57 (g : sPlan.α) : CallQ Try.prog E0 57 (sPlan.arg g) (sPlan.res g) := by
  refine bare_all E0_ok TC TC_ok V4 V4_ok runs [] [] [] [] (fuel := 5) ?_
  refine of_red (q := ∃ (x : Int × Int × Int), ((True ∧ g.snd.fst = x.fst) ∧ (True ∧ (0 : Int) = x.snd.fst) ∧ (True ∧ g.fst = x.snd.snd) ∧ True) ∧ True ∧ (within x.fst x.snd.fst x.snd.snd = true → ∃ (x : Int × Int × Int), ((True ∧ g.snd.snd = x.fst) ∧ (True ∧ (0 : Int) = x.snd.fst) ∧ (True ∧ g.snd.fst = x.snd.snd) ∧ True) ∧ True ∧ True ∧ within x.fst x.snd.fst x.snd.snd = planOk g.fst g.snd.fst g.snd.snd) ∧ (within x.fst x.snd.fst x.snd.snd = false → True ∧ planOk g.fst g.snd.fst g.snd.snd = false)) (by kernel_rfl) ?_
  obtain ⟨N, o, a⟩ := g
  simp only [true_and, and_true, inR, Prod.exists, Prod.forall, and_assoc, exists_and_left, exists_eq_left', exists_eq_left, forall_eq, exists_const, forall_const, loopN, loopM, fa2, fas, fas2, dup1, dup2, dup3, dup4, ite_true, exhs, exhn, exhz, exho, exs1, exn1, exz1, exo1, exs2, exn2, exz2, exo2, exs3, exn3, exz3, exo3, exs4, exn4, exz4, exo4, exs5, exn5, exz5, exo5, exs6, exn6, exz6, exo6, exs7, exn7, exz7, exo7, exs8, exn8, exz8, exo8, exs9, exn9, exz9, exo9, ex1, ex2, ex3, ex4, ex5, beqI, bneI, decide_true, Bool.true_and, decide_eq_true_eq, decide_eq_false_iff_not, ne_eq, Decidable.not_not]
  unfold planOk
  exact ⟨fun h => by rw [h, Bool.true_and], fun h => by rw [h, Bool.false_and]⟩
def sRule : Sig := ⟨Int × (Nat → Int), fun g => [intC g.1, arrTV 6 g.2], fun _ => True, fun g => [.v (.c (.bool (ruleOk g.1 g.2)))]⟩
theorem q62 (g : sRule.α) : CallQ Try.prog E0 62 (sRule.arg g) (sRule.res g) := by
  refine bare_all E0_ok TC TC_ok V4 V4_ok runs [] [] [] [] (fuel := 5) ?_
  refine of_red (q := (decide ((0 : Int) ≤ g.snd (0 : Nat)) = true → (decide (g.snd (0 : Nat) < g.snd ((0 : Nat) + (nat_lit 2 + (1 : Nat)))) = true → (decide (g.snd ((0 : Nat) + (nat_lit 2 + (1 : Nat))) ≤ g.fst) = true → ∃ (x : Int × Int), ((True ∧ (True ∧ True ∧ g.snd (nat_lit 0 + (nat_lit 0 + (1 : Nat))) = x.fst) ∧ True ∧ g.snd (nat_lit 1 + (nat_lit 0 + (1 : Nat))) = x.snd) ∧ True) ∧ True ∧ (oddsOk x.fst x.snd = true → ∃ (x : Int × Int), ((True ∧ (True ∧ True ∧ g.snd (nat_lit 0 + (nat_lit 3 + (1 : Nat))) = x.fst) ∧ True ∧ g.snd (nat_lit 1 + (nat_lit 3 + (1 : Nat))) = x.snd) ∧ True) ∧ True ∧ True ∧ oddsOk x.fst x.snd = ruleOk g.fst g.snd) ∧ (oddsOk x.fst x.snd = false → True ∧ ruleOk g.fst g.snd = false)) ∧ (decide (g.snd ((0 : Nat) + (nat_lit 2 + (1 : Nat))) ≤ g.fst) = false → True ∧ ruleOk g.fst g.snd = false)) ∧ (decide (g.snd (0 : Nat) < g.snd ((0 : Nat) + (nat_lit 2 + (1 : Nat)))) = false → True ∧ ruleOk g.fst g.snd = false)) ∧ (decide ((0 : Int) ≤ g.snd (0 : Nat)) = false → True ∧ ruleOk g.fst g.snd = false)) (by kernel_rfl) ?_
  obtain ⟨N, r⟩ := g
  simp only [true_and, and_true, inR, Prod.exists, Prod.forall, and_assoc, exists_and_left, exists_eq_left', exists_eq_left, forall_eq, exists_const, forall_const, loopN, loopM, fa2, fas, fas2, dup1, dup2, dup3, dup4, ite_true, exhs, exhn, exhz, exho, exs1, exn1, exz1, exo1, exs2, exn2, exz2, exo2, exs3, exn3, exz3, exo3, exs4, exn4, exz4, exo4, exs5, exn5, exz5, exo5, exs6, exn6, exz6, exo6, exs7, exn7, exz7, exo7, exs8, exn8, exz8, exo8, exs9, exn9, exz9, exo9, ex1, ex2, ex3, ex4, ex5, beqI, bneI, decide_true, Bool.true_and, decide_eq_true_eq, decide_eq_false_iff_not, ne_eq, Decidable.not_not]
  have e : ruleOk N r = (decide (0 ≤ r 0) && decide (r 0 < r 3) && decide (r 3 ≤ N) && oddsOk (r 1) (r 2) && oddsOk (r 4) (r 5)) := rfl
  refine ⟨fun a => ⟨fun b => ⟨fun c => ⟨fun d => ?_, fun d => ?_⟩, fun c => ?_⟩, fun b => ?_⟩, fun a => ?_⟩ <;> rw [e]
  all_goals first | (simp_all; done) | (simp_all; intros; omega)
def sOdds : Sig := ⟨Int × Int × Int × Int, fun x => [intC x.1, intC x.2.1, twoTV x.2.2.1 x.2.2.2], fun _ => True, fun x => [.v (twoTV (oddsOf x.1 x.2.1 x.2.2.1 x.2.2.2) (oddsIn x.1 x.2.1 x.2.2.1 x.2.2.2)), .v (intC (oddsE x.1 x.2.1 x.2.2.1 x.2.2.2))]⟩
theorem q20 (x : sOdds.α) : CallQ Try.prog E0 20 (sOdds.arg x) (sOdds.res x) := by
  obtain ⟨N, b, o, a⟩ := x
  refine bare_all E0_ok TC TC_ok V4 V4_ok runs [] [] [] [(20, 4, mapN 8)] (fuel := 5) ?_
  refine of_red (q := ∃ (x : Int × Int × Int), ((True ∧ N = x.fst) ∧ (True ∧ (1 : Int) = x.snd.fst) ∧ (True ∧ (40 : Int) = x.snd.snd) ∧ True) ∧ True ∧ ((!within x.fst x.snd.fst x.snd.snd) = true → (True ∧ (True ∧ True ∧ (0 : Int) = oddsOf N (b, o, a).fst (b, o, a).snd.fst (b, o, a).snd.snd) ∧ True ∧ (0 : Int) = oddsIn N (b, o, a).fst (b, o, a).snd.fst (b, o, a).snd.snd) ∧ (True ∧ (7 : Int) = oddsE N (b, o, a).fst (b, o, a).snd.fst (b, o, a).snd.snd) ∧ True) ∧ ((!within x.fst x.snd.fst x.snd.snd) = false → ∃ (x : Int × Int × Int), ((True ∧ b = x.fst) ∧ (True ∧ (0 : Int) = x.snd.fst) ∧ (True ∧ N = x.snd.snd) ∧ True) ∧ True ∧ ((!within x.fst x.snd.fst x.snd.snd) = true → (True ∧ (True ∧ True ∧ (0 : Int) = oddsOf N (b, o, a).fst (b, o, a).snd.fst (b, o, a).snd.snd) ∧ True ∧ (0 : Int) = oddsIn N (b, o, a).fst (b, o, a).snd.fst (b, o, a).snd.snd) ∧ (True ∧ (7 : Int) = oddsE N (b, o, a).fst (b, o, a).snd.fst (b, o, a).snd.snd) ∧ True) ∧ ((!within x.fst x.snd.fst x.snd.snd) = false → (True ∧ ∀ (ks : List Int) (x : Int), none = some x → x = cI (ks.getD (0 : Nat) (0 : Int)) (ks.getD (1 : Nat) (0 : Int))) ∧ (lookFn fnTab (54 : Nat)).isSome = true ∧ ∃ (g : Nat × Int × Int), g.fst ≤ (1000000 : Nat) ∧ True ∧ ((True ∧ (True ∧ True ∧ N = (↑g.fst : Int)) ∧ True) ∧ (True ∧ (True ∧ True ∧ (b, o, a).snd.fst = g.snd.fst) ∧ True ∧ (b, o, a).snd.snd = g.snd.snd) ∧ True) ∧ ((True ∧ ∀ (ks : List Int) (x : Int), x = cI (ks.getD (0 : Nat) (0 : Int)) (ks.getD (1 : Nat) (0 : Int)) → x = cI (ks.getD (0 : Nat) (0 : Int)) (ks.getD (1 : Nat) (0 : Int))) ∧ True) ∧ ((True ∧ ∀ (ks : List Int) (x : Int), x = cI (ks.getD (0 : Nat) (0 : Int)) (ks.getD (1 : Nat) (0 : Int)) → x = cI (ks.getD (0 : Nat) (0 : Int)) (ks.getD (1 : Nat) (0 : Int))) ∧ True) ∧ ((!planOk (↑g.fst : Int) g.snd.fst g.snd.snd) = true → (True ∧ (True ∧ True ∧ (0 : Int) = oddsOf N (b, o, a).fst (b, o, a).snd.fst (b, o, a).snd.snd) ∧ True ∧ (0 : Int) = oddsIn N (b, o, a).fst (b, o, a).snd.fst (b, o, a).snd.snd) ∧ (True ∧ (72 : Int) = oddsE N (b, o, a).fst (b, o, a).snd.fst (b, o, a).snd.snd) ∧ True) ∧ ((!planOk (↑g.fst : Int) g.snd.fst g.snd.snd) = false → (lookFn fnTab (67 : Nat)).isSome = true ∧ ∃ (g : FndIn), (g.N ≤ (40 : Nat) ∧ g.b ≤ g.N ∧ g.o ≤ g.N ∧ g.hi ≤ g.o ∧ g.lo ≤ g.hi + (1 : Nat)) ∧ True ∧ ((True ∧ (True ∧ True ∧ N = (↑g.N : Int)) ∧ True) ∧ (True ∧ b = (↑g.b : Int)) ∧ (True ∧ o = (↑g.o : Int)) ∧ (True ∧ (0 : Int) = (↑g.lo : Int)) ∧ (True ∧ a = (↑g.hi : Int)) ∧ True) ∧ ((True ∧ ∀ (ks : List Int) (x : Int), x = cI (ks.getD (0 : Nat) (0 : Int)) (ks.getD (1 : Nat) (0 : Int)) → x = cI (ks.getD (0 : Nat) (0 : Int)) (ks.getD (1 : Nat) (0 : Int))) ∧ True) ∧ ((True ∧ ∀ (ks : List Int) (x : Int), x = cI (ks.getD (0 : Nat) (0 : Int)) (ks.getD (1 : Nat) (0 : Int)) → x = cI (ks.getD (0 : Nat) (0 : Int)) (ks.getD (1 : Nat) (0 : Int))) ∧ True) ∧ ∃ (x : Nat × Nat), ((True ∧ (True ∧ True ∧ (↑(fnd g.N g.b g.o g.lo g.hi) : Int) = (↑x.fst : Int)) ∧ True ∧ (↑(ch g.N g.o) : Int) = (↑x.snd : Int)) ∧ True) ∧ ((0 : Nat) < x.snd ∧ x.fst ≤ (1099511627776 : Nat) ∧ x.snd ≤ (1099511627776 : Nat)) ∧ (True ∧ (True ∧ True ∧ (↑(x.fst / x.fst.gcd x.snd) : Int) = oddsOf N (b, o, a).fst (b, o, a).snd.fst (b, o, a).snd.snd) ∧ True ∧ (↑(x.snd / x.fst.gcd x.snd) : Int) = oddsIn N (b, o, a).fst (b, o, a).snd.fst (b, o, a).snd.snd) ∧ (True ∧ (0 : Int) = oddsE N (b, o, a).fst (b, o, a).snd.fst (b, o, a).snd.snd) ∧ True)))) (by kernel_rfl) ?_
  simp only [true_and, and_true, inR, Prod.exists, Prod.forall, and_assoc, exists_and_left, exists_eq_left', exists_eq_left, forall_eq, exists_const, forall_const, loopN, loopM, fa2, fas, fas2, dup1, dup2, dup3, dup4, ite_true, exhs, exhn, exhz, exho, exs1, exn1, exz1, exo1, exs2, exn2, exz2, exo2, exs3, exn3, exz3, exo3, exs4, exn4, exz4, exo4, exs5, exn5, exz5, exo5, exs6, exn6, exz6, exo6, exs7, exn7, exz7, exo7, exs8, exn8, exz8, exo8, exs9, exn9, exz9, exo9, ex1, ex2, ex3, ex4, ex5, beqI, bneI, decide_true, Bool.true_and, decide_eq_true_eq, decide_eq_false_iff_not, ne_eq, Decidable.not_not]
  have b7 : ¬ (within N 1 40 && within b 0 N) = true → 0 = oddsOf N b o a ∧ 0 = oddsIn N b o a ∧ 7 = oddsE N b o a := fun h => let ⟨e1, e2, e3⟩ := odds_bad7 (o := o) (a := a) h; ⟨e1.symm, e2.symm, e3.symm⟩
  have b72 : (within N 1 40 && within b 0 N) = true → ¬ planOk N o a = true → 0 = oddsOf N b o a ∧ 0 = oddsIn N b o a ∧ 72 = oddsE N b o a := fun h0 h => let ⟨e1, e2, e3⟩ := odds_bad72 h0 h; ⟨e1.symm, e2.symm, e3.symm⟩
  refine ⟨fun h => b7 (by simp_all), fun h1 => ⟨fun h => b7 (by simp_all), fun h2 => ?_⟩⟩
  · refine ⟨fun _ _ h => (by cases h), is54, ?_⟩
    simp only [Bool.not_eq_false'] at h1 h2
    have w := Bool.and_eq_true_iff.2 ⟨h1, h2⟩
    have w1 := Bm.within_iff.1 h1
    have w2 := Bm.within_iff.1 h2
    obtain ⟨n, rfl⟩ : ∃ n : Nat, N = n := ⟨N.toNat, by omega⟩
    obtain ⟨c, rfl⟩ : ∃ c : Nat, b = c := ⟨b.toNat, by omega⟩
    refine ⟨n, by omega, rfl, fun h3 => b72 w (by simp_all), fun h3 => ?_⟩
    have h3 : planOk n o a = true := by simpa using h3
    have w3 := h3
    simp only [planOk, Bool.and_eq_true, Bm.within_iff] at w3
    obtain ⟨u, rfl⟩ : ∃ u : Nat, o = u := ⟨o.toNat, by omega⟩
    obtain ⟨v, rfl⟩ : ∃ v : Nat, a = v := ⟨a.toNat, by omega⟩
    obtain ⟨e1, e2, e3⟩ := odds_good w h3
    have cb := ch_le (n := n) (k := u) (by omega)
    have c0 := ch_pos (n := n) (k := u) (by omega)
    have fb := F_le (N := n) (b := c) (o := u) (a := v) (by omega) (by omega)
    refine ⟨is67, ⟨n, c, u, 0, v⟩, by show n ≤ 40; omega, by show c ≤ n; omega, by show u ≤ n; omega, by show v ≤ u; omega, Nat.zero_le _, rfl, rfl, rfl, rfl, rfl, c0, ?_, cb, ?_, ?_, e3.symm⟩
    · show fnd n c u 0 v ≤ 1099511627776
      rw [fnd_F]; omega
    · show ((fnd n c u 0 v / Nat.gcd (fnd n c u 0 v) (ch n u) : Nat) : Int) = _
      rw [fnd_F]; exact e1.symm
    · show ((ch n u / Nat.gcd (fnd n c u 0 v) (ch n u) : Nat) : Int) = _
      rw [fnd_F]; exact e2.symm
theorem q21 (x : sOdds.α) : CallQ Try.prog E0 21 (sOdds.arg x) (sOdds.res x) := by
  obtain ⟨N, b, o, a⟩ := x
  refine bare_all E0_ok TC TC_ok V4 V4_ok runs [] [] [] [] (fuel := 5) ?_
  refine of_red (q := ∃ (x : Int × Int × Int), ((True ∧ N = x.fst) ∧ (True ∧ (1 : Int) = x.snd.fst) ∧ (True ∧ (40 : Int) = x.snd.snd) ∧ True) ∧ True ∧ ((!within x.fst x.snd.fst x.snd.snd) = true → (True ∧ (True ∧ True ∧ (0 : Int) = oddsOf N (b, o, a).fst (b, o, a).snd.fst (b, o, a).snd.snd) ∧ True ∧ (0 : Int) = oddsIn N (b, o, a).fst (b, o, a).snd.fst (b, o, a).snd.snd) ∧ (True ∧ (7 : Int) = oddsE N (b, o, a).fst (b, o, a).snd.fst (b, o, a).snd.snd) ∧ True) ∧ ((!within x.fst x.snd.fst x.snd.snd) = false → ∃ (x : Int × Int × Int), ((True ∧ b = x.fst) ∧ (True ∧ (0 : Int) = x.snd.fst) ∧ (True ∧ N = x.snd.snd) ∧ True) ∧ True ∧ ((!within x.fst x.snd.fst x.snd.snd) = true → (True ∧ (True ∧ True ∧ (0 : Int) = oddsOf N (b, o, a).fst (b, o, a).snd.fst (b, o, a).snd.snd) ∧ True ∧ (0 : Int) = oddsIn N (b, o, a).fst (b, o, a).snd.fst (b, o, a).snd.snd) ∧ (True ∧ (7 : Int) = oddsE N (b, o, a).fst (b, o, a).snd.fst (b, o, a).snd.snd) ∧ True) ∧ ((!within x.fst x.snd.fst x.snd.snd) = false → ∃ (x : Int × Int × Int), ((True ∧ o = x.fst) ∧ (True ∧ (0 : Int) = x.snd.fst) ∧ (True ∧ N = x.snd.snd) ∧ True) ∧ True ∧ (within x.fst x.snd.fst x.snd.snd = true → ∃ (x : Int × Int × Int), ((True ∧ a = x.fst) ∧ (True ∧ (0 : Int) = x.snd.fst) ∧ (True ∧ o = x.snd.snd) ∧ True) ∧ True ∧ ((!within x.fst x.snd.fst x.snd.snd) = true → (True ∧ (True ∧ True ∧ (0 : Int) = oddsOf N (b, o, a).fst (b, o, a).snd.fst (b, o, a).snd.snd) ∧ True ∧ (0 : Int) = oddsIn N (b, o, a).fst (b, o, a).snd.fst (b, o, a).snd.snd) ∧ (True ∧ (72 : Int) = oddsE N (b, o, a).fst (b, o, a).snd.fst (b, o, a).snd.snd) ∧ True) ∧ ((!within x.fst x.snd.fst x.snd.snd) = false → ∃ (x : FndIn), ((True ∧ N = (↑x.N : Int)) ∧ (True ∧ b = (↑x.b : Int)) ∧ (True ∧ o = (↑x.o : Int)) ∧ (True ∧ (0 : Int) = (↑x.lo : Int)) ∧ (True ∧ a = (↑x.hi : Int)) ∧ True) ∧ (x.N ≤ (40 : Nat) ∧ x.b ≤ x.N ∧ x.o ≤ x.N ∧ x.hi ≤ x.o ∧ x.lo ≤ x.hi + (1 : Nat)) ∧ ∃ (x_1 : Nat × Int), ((True ∧ N = (↑x_1.fst : Int)) ∧ (True ∧ o = x_1.snd) ∧ True) ∧ (x_1.fst ≤ (40 : Nat) ∧ (-100 : Int) ≤ x_1.snd ∧ x_1.snd ≤ (100 : Int)) ∧ ∃ (x_2 : Nat × Nat), ((True ∧ (↑(fnd x.N x.b x.o x.lo x.hi) : Int) = (↑x_2.fst : Int)) ∧ (True ∧ cI (↑x_1.fst : Int) x_1.snd = (↑x_2.snd : Int)) ∧ True) ∧ (x_2.fst ≤ (1099511627776 : Nat) ∧ x_2.snd ≤ (1099511627776 : Nat)) ∧ (↑(x_2.fst.gcd x_2.snd) : Int) ≠ (0 : Int) ∧ inRange IntKind.i64 ((↑(fnd x.N x.b x.o x.lo x.hi) : Int).tdiv (↑(x_2.fst.gcd x_2.snd) : Int)) ∧ (↑(x_2.fst.gcd x_2.snd) : Int) ≠ (0 : Int) ∧ inRange IntKind.i64 ((cI (↑x_1.fst : Int) x_1.snd).tdiv (↑(x_2.fst.gcd x_2.snd) : Int)) ∧ (True ∧ (True ∧ True ∧ (↑(fnd x.N x.b x.o x.lo x.hi) : Int).tdiv (↑(x_2.fst.gcd x_2.snd) : Int) = oddsOf N (b, o, a).fst (b, o, a).snd.fst (b, o, a).snd.snd) ∧ True ∧ (cI (↑x_1.fst : Int) x_1.snd).tdiv (↑(x_2.fst.gcd x_2.snd) : Int) = oddsIn N (b, o, a).fst (b, o, a).snd.fst (b, o, a).snd.snd) ∧ (True ∧ (0 : Int) = oddsE N (b, o, a).fst (b, o, a).snd.fst (b, o, a).snd.snd) ∧ True)) ∧ (within x.fst x.snd.fst x.snd.snd = false → (True ∧ (True ∧ True ∧ (0 : Int) = oddsOf N (b, o, a).fst (b, o, a).snd.fst (b, o, a).snd.snd) ∧ True ∧ (0 : Int) = oddsIn N (b, o, a).fst (b, o, a).snd.fst (b, o, a).snd.snd) ∧ (True ∧ (72 : Int) = oddsE N (b, o, a).fst (b, o, a).snd.fst (b, o, a).snd.snd) ∧ True)))) (by kernel_rfl) ?_
  simp only [true_and, and_true, inR, Prod.exists, Prod.forall, and_assoc, exists_and_left, exists_eq_left', exists_eq_left, forall_eq, exists_const, forall_const, loopN, loopM, fa2, fas, fas2, dup1, dup2, dup3, dup4, ite_true, exhs, exhn, exhz, exho, exs1, exn1, exz1, exo1, exs2, exn2, exz2, exo2, exs3, exn3, exz3, exo3, exs4, exn4, exz4, exo4, exs5, exn5, exz5, exo5, exs6, exn6, exz6, exo6, exs7, exn7, exz7, exo7, exs8, exn8, exz8, exo8, exs9, exn9, exz9, exo9, ex1, ex2, ex3, ex4, ex5, beqI, bneI, decide_true, Bool.true_and, decide_eq_true_eq, decide_eq_false_iff_not, ne_eq, Decidable.not_not]
  have b7 : ¬ (within N 1 40 && within b 0 N) = true → 0 = oddsOf N b o a ∧ 0 = oddsIn N b o a ∧ 7 = oddsE N b o a := fun h => let ⟨e1, e2, e3⟩ := odds_bad7 (o := o) (a := a) h; ⟨e1.symm, e2.symm, e3.symm⟩
  have b72 : (within N 1 40 && within b 0 N) = true → ¬ planOk N o a = true → 0 = oddsOf N b o a ∧ 0 = oddsIn N b o a ∧ 72 = oddsE N b o a := fun h0 h => let ⟨e1, e2, e3⟩ := odds_bad72 h0 h; ⟨e1.symm, e2.symm, e3.symm⟩
  refine ⟨fun h => b7 (by simp_all), fun h1 => ⟨fun h => b7 (by simp_all), fun h2 => ?_⟩⟩
  · refine ⟨fun h3 => ⟨fun h4 => b72 (by simp_all) (by unfold planOk; simp_all), fun h4 => ?_⟩, fun h3 => b72 (by simp_all) (by unfold planOk; simp_all)⟩
    simp only [Bool.not_eq_false'] at h1 h2
    have w := Bool.and_eq_true_iff.2 ⟨h1, h2⟩
    have w1 := Bm.within_iff.1 h1
    have w2 := Bm.within_iff.1 h2
    obtain ⟨n, rfl⟩ : ∃ n : Nat, N = n := ⟨N.toNat, by omega⟩
    obtain ⟨c, rfl⟩ : ∃ c : Nat, b = c := ⟨b.toNat, by omega⟩
    have h3 : planOk n o a = true := by unfold planOk; simp_all
    have w3 := h3
    simp only [planOk, Bool.and_eq_true, Bm.within_iff] at w3
    obtain ⟨u, rfl⟩ : ∃ u : Nat, o = u := ⟨o.toNat, by omega⟩
    obtain ⟨v, rfl⟩ : ∃ v : Nat, a = v := ⟨a.toNat, by omega⟩
    obtain ⟨e1, e2, e3⟩ := odds_good w h3
    have cb := ch_le (n := n) (k := u) (by omega)
    have c0 := ch_pos (n := n) (k := u) (by omega)
    have fb := F_le (N := n) (b := c) (o := u) (a := v) (by omega) (by omega)
    have g0 : 0 < Nat.gcd (F n c u v) (ch n u) := Nat.gcd_pos_of_pos_right _ c0
    rw [e1, e2, e3]
    have k1 := Nat.div_le_self (F n c u v) (Nat.gcd (F n c u v) (ch n u))
    have k2 := Nat.div_le_self (ch n u) (Nat.gcd (F n c u v) (ch n u))
    refine ⟨⟨n, c, u, 0, v⟩, rfl, rfl, rfl, rfl, rfl, by show n ≤ 40; omega, by show c ≤ n; omega, by show u ≤ n; omega, by show v ≤ u; omega, Nat.zero_le _, n, rfl, by omega, by omega, by omega, ch n u, cI_nat n u, ?_⟩
    simp only [fnd_F, cI_nat, tdiv_nat]
    generalize F n c u v / Nat.gcd (F n c u v) (ch n u) = p at k1 ⊢
    generalize ch n u / Nat.gcd (F n c u v) (ch n u) = q at k2 ⊢
    exact ⟨by omega, by omega, by omega, by omega, by omega, by omega, by omega, by omega, trivial, trivial, trivial⟩
end Go.Proofs.Ythcplmlkgaiggaa
