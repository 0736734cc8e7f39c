/- Contracts: the reference's check; what parties have; whole payments. -/
import Derived.Test.YthofpbnbjkdpaaaDoorCxB
set_option linter.unusedSimpArgs false
set_option linter.unusedVariables false
namespace Go.Proofs.YthofpbnbjkdpaaaDoor
open Go Go.Sx Cm
set_option maxRecDepth 100000

def TB0 : List (Nat × Sig) := (45, sW45) :: (17, sCheck) :: TA
theorem TB0_ok : SigsOk Tryd.prog E0 TB0 := (TA_ok.cons (runs 17 (by kernel_rfl)) q17).cons (runs 45 (by kernel_rfl)) q45

def cR1 (b : Book) : Ann := { G := Bool, ok := fun _ _ => True, dom := fun _ => [], tm := fun _ _ => [(4, .t (.c (.bool (sizesOk b && allB b.nc (cashOk b)))))], hp := fun _ _ => [], mu := fun _ _ => 0 }
def aR1 (b : Book) : Ann := { G := Nat, ok := fun _ i => i ≤ b.nd, dom := fun _ => [], tm := fun _ i => [(4, .t (.c (.bool (sizesOk b && allB b.nc (cashOk b) && allB i (debtOk b))))), (5, .t (intC i))], hp := fun _ _ => [], mu := fun _ i => b.nd - i }
def cR2 (b : Book) : Ann := { G := Bool, ok := fun _ _ => True, dom := fun _ => [], tm := fun _ _ => [(4, .t (.c (.bool (sizesOk b && allB b.nc (cashOk b) && allB b.nd (debtOk b)))))], hp := fun _ _ => [], mu := fun _ _ => 0 }
def aR2 (b : Book) : Ann := { G := Nat, ok := fun _ i => i ≤ b.ns, dom := fun _ => [], tm := fun _ i => [(4, .t (.c (.bool (sizesOk b && allB b.nc (cashOk b) && allB b.nd (debtOk b) && allB i (seasonOk b))))), (7, .t (intC i))], hp := fun _ _ => [], mu := fun _ i => b.ns - i }
theorem q18 (b : sCheck.α) (h : sCheck.pre b) : CallQ Tryd.prog E0 18 (sCheck.arg b) (sCheck.res b) := by
  refine bare_with E0_ok TB0 TB0_ok runs [(18, 4, aR1 b), (18, 9, aR2 b)] [(18, 3, cR1 b), (18, 8, cR2 b)] (fuel := 5) ?_
  refine of_red (q := (∃ (x : Int × Int × Int), ((True ∧ (↑b.nc : Int) = x.fst) ∧ (True ∧ (1 : Int) = x.snd.fst) ∧ (True ∧ (6 : Int) = x.snd.snd) ∧ True) ∧ True ∧ (within x.fst x.snd.fst x.snd.snd = true → ∃ (x : (Nat × (Nat → Int)) × Int × Int), ((True ∧ True ∧ b.nc = x.fst.fst ∧ ∀ (i : Nat), i < b.nc → True ∧ b.cash i = x.fst.snd i) ∧ (True ∧ (↑b.nc : Int) = x.snd.fst) ∧ (True ∧ (10000 : Int) = x.snd.snd) ∧ True) ∧ x.fst.fst < (4611686018427387904 : Nat) ∧ ((decide ((↑x.fst.fst : Int) = x.snd.fst) && allB x.fst.fst fun (i : Nat) => within (x.fst.snd i) (0 : Int) x.snd.snd) = true → (decide ((↑b.nd : Int) ≤ (12 : Int)) = true → ∃ (x : Int × Int × Int), ((True ∧ (↑b.ns : Int) = x.fst) ∧ (True ∧ (1 : Int) = x.snd.fst) ∧ (True ∧ (6 : Int) = x.snd.snd) ∧ True) ∧ True ∧ ∃ (g : Bool), True ∧ True ∧ ((True ∧ within x.fst x.snd.fst x.snd.snd = (sizesOk b && allB b.nc (cashOk b))) ∧ True) ∧ True) ∧ (decide ((↑b.nd : Int) ≤ (12 : Int)) = false → ∃ (g : Bool), True ∧ True ∧ ((True ∧ (sizesOk b && allB b.nc (cashOk b)) = false) ∧ True) ∧ True)) ∧ ((decide ((↑x.fst.fst : Int) = x.snd.fst) && allB x.fst.fst fun (i : Nat) => within (x.fst.snd i) (0 : Int) x.snd.snd) = false → ∃ (g : Bool), True ∧ True ∧ ((True ∧ (sizesOk b && allB b.nc (cashOk b)) = false) ∧ True) ∧ True)) ∧ (within x.fst x.snd.fst x.snd.snd = false → ∃ (g : Bool), True ∧ True ∧ ((True ∧ (sizesOk b && allB b.nc (cashOk b)) = false) ∧ True) ∧ True)) ∧ ∀ (g : Bool), True → ((∃ (g : Nat), g ≤ b.nd ∧ True ∧ ((True ∧ (sizesOk b && allB b.nc (cashOk b)) = (sizesOk b && allB b.nc (cashOk b) && allB g (debtOk b))) ∧ (True ∧ (0 : Int) = (↑g : Int)) ∧ True) ∧ True) ∧ ∀ (g : Nat), g ≤ b.nd → ((sizesOk b && allB b.nc (cashOk b) && allB g (debtOk b)) = true → (decide ((↑g : Int) < (↑b.nd : Int)) = true → (0 : Int) ≤ (↑g : Int) ∧ (↑g : Int) < (↑b.nd : Int) ∧ inRange IntKind.i64 ((↑b.nc : Int) - (1 : Int)) ∧ ∃ (x : Int × Int × Int), ((True ∧ b.frm g = x.fst) ∧ (True ∧ (0 : Int) = x.snd.fst) ∧ (True ∧ (↑b.nc : Int) - (1 : Int) = x.snd.snd) ∧ True) ∧ True ∧ (within x.fst x.snd.fst x.snd.snd = true → inRange IntKind.i64 ((↑b.nc : Int) - (1 : Int)) ∧ ∃ (x : Int × Int × Int), ((True ∧ b.to g = x.fst) ∧ (True ∧ (0 : Int) = x.snd.fst) ∧ (True ∧ (↑b.nc : Int) - (1 : Int) = x.snd.snd) ∧ True) ∧ True ∧ (within x.fst x.snd.fst x.snd.snd = true → ((b.frm g != b.to g) = true → ∃ (x : Int × Int × Int), ((True ∧ b.due g = x.fst) ∧ (True ∧ (1 : Int) = x.snd.fst) ∧ (True ∧ (10000 : Int) = x.snd.snd) ∧ True) ∧ True ∧ inRange IntKind.i64 ((↑g : Int) + (1 : Int)) ∧ ∃ (g' : Nat), g' ≤ b.nd ∧ b.nd - g' < b.nd - g ∧ True ∧ ((True ∧ within x.fst x.snd.fst x.snd.snd = (sizesOk b && allB b.nc (cashOk b) && allB g' (debtOk b))) ∧ (True ∧ (↑g : Int) + (1 : Int) = (↑g' : Int)) ∧ True) ∧ True) ∧ ((b.frm g != b.to g) = false → inRange IntKind.i64 ((↑g : Int) + (1 : Int)) ∧ ∃ (g' : Nat), g' ≤ b.nd ∧ b.nd - g' < b.nd - g ∧ True ∧ ((True ∧ (sizesOk b && allB b.nc (cashOk b) && allB g' (debtOk b)) = false) ∧ (True ∧ (↑g : Int) + (1 : Int) = (↑g' : Int)) ∧ True) ∧ True)) ∧ (within x.fst x.snd.fst x.snd.snd = false → inRange IntKind.i64 ((↑g : Int) + (1 : Int)) ∧ ∃ (g' : Nat), g' ≤ b.nd ∧ b.nd - g' < b.nd - g ∧ True ∧ ((True ∧ (sizesOk b && allB b.nc (cashOk b) && allB g' (debtOk b)) = false) ∧ (True ∧ (↑g : Int) + (1 : Int) = (↑g' : Int)) ∧ True) ∧ True)) ∧ (within x.fst x.snd.fst x.snd.snd = false → inRange IntKind.i64 ((↑g : Int) + (1 : Int)) ∧ ∃ (g' : Nat), g' ≤ b.nd ∧ b.nd - g' < b.nd - g ∧ True ∧ ((True ∧ (sizesOk b && allB b.nc (cashOk b) && allB g' (debtOk b)) = false) ∧ (True ∧ (↑g : Int) + (1 : Int) = (↑g' : Int)) ∧ True) ∧ True)) ∧ (decide ((↑g : Int) < (↑b.nd : Int)) = false → ∃ (g_1 : Bool), True ∧ True ∧ ((True ∧ (sizesOk b && allB b.nc (cashOk b) && allB g (debtOk b)) = (sizesOk b && allB b.nc (cashOk b) && allB b.nd (debtOk b))) ∧ True) ∧ True)) ∧ ((sizesOk b && allB b.nc (cashOk b) && allB g (debtOk b)) = false → ∃ (g_1 : Bool), True ∧ True ∧ ((True ∧ (sizesOk b && allB b.nc (cashOk b) && allB g (debtOk b)) = (sizesOk b && allB b.nc (cashOk b) && allB b.nd (debtOk b))) ∧ True) ∧ True)) ∧ ∀ (g : Bool), True → (∃ (g : Nat), g ≤ b.ns ∧ True ∧ ((True ∧ (sizesOk b && allB b.nc (cashOk b) && allB b.nd (debtOk b)) = (sizesOk b && allB b.nc (cashOk b) && allB b.nd (debtOk b) && allB g (seasonOk b))) ∧ (True ∧ (0 : Int) = (↑g : Int)) ∧ True) ∧ True) ∧ ∀ (g : Nat), g ≤ b.ns → ((sizesOk b && allB b.nc (cashOk b) && allB b.nd (debtOk b) && allB g (seasonOk b)) = true → (decide ((↑g : Int) < (↑b.ns : Int)) = true → (0 : Int) ≤ (↑g : Int) ∧ (↑g : Int) < (↑b.ns : Int) ∧ ∃ (x : Int × Int × Int), ((True ∧ b.price g = x.fst) ∧ (True ∧ (0 : Int) = x.snd.fst) ∧ (True ∧ (100 : Int) = x.snd.snd) ∧ True) ∧ True ∧ (within x.fst x.snd.fst x.snd.snd = true → (0 : Int) ≤ (↑g : Int) ∧ (↑g : Int) < (↑b.ns : Int) ∧ ∃ (x : (Nat × (Nat → Int)) × Int × Int), ((True ∧ True ∧ b.nb g = x.fst.fst ∧ ∀ (i : Nat), i < b.nb g → True ∧ b.bar g i = x.fst.snd i) ∧ (True ∧ (↑b.nc : Int) = x.snd.fst) ∧ (True ∧ (200 : Int) = x.snd.snd) ∧ True) ∧ x.fst.fst < (4611686018427387904 : Nat) ∧ inRange IntKind.i64 ((↑g : Int) + (1 : Int)) ∧ ∃ (g' : Nat), g' ≤ b.ns ∧ b.ns - g' < b.ns - g ∧ True ∧ ((True ∧ (decide ((↑x.fst.fst : Int) = x.snd.fst) && allB x.fst.fst fun (i : Nat) => within (x.fst.snd i) (0 : Int) x.snd.snd) = (sizesOk b && allB b.nc (cashOk b) && allB b.nd (debtOk b) && allB g' (seasonOk b))) ∧ (True ∧ (↑g : Int) + (1 : Int) = (↑g' : Int)) ∧ True) ∧ True) ∧ (within x.fst x.snd.fst x.snd.snd = false → inRange IntKind.i64 ((↑g : Int) + (1 : Int)) ∧ ∃ (g' : Nat), g' ≤ b.ns ∧ b.ns - g' < b.ns - g ∧ True ∧ ((True ∧ (sizesOk b && allB b.nc (cashOk b) && allB b.nd (debtOk b) && allB g' (seasonOk b)) = false) ∧ (True ∧ (↑g : Int) + (1 : Int) = (↑g' : Int)) ∧ True) ∧ True)) ∧ (decide ((↑g : Int) < (↑b.ns : Int)) = false → ((!(sizesOk b && allB b.nc (cashOk b) && allB b.nd (debtOk b) && allB g (seasonOk b))) = true → True ∧ (80 : Int) = errOf b) ∧ ((!(sizesOk b && allB b.nc (cashOk b) && allB b.nd (debtOk b) && allB g (seasonOk b))) = false → True ∧ (0 : Int) = errOf b))) ∧ ((sizesOk b && allB b.nc (cashOk b) && allB b.nd (debtOk b) && allB g (seasonOk b)) = false → ((!(sizesOk b && allB b.nc (cashOk b) && allB b.nd (debtOk b) && allB g (seasonOk b))) = true → True ∧ (80 : Int) = errOf b) ∧ ((!(sizesOk b && allB b.nc (cashOk b) && allB b.nd (debtOk b) && allB g (seasonOk b))) = false → True ∧ (0 : Int) = errOf b))) (by kernel_rfl) ?_
  have h1 := h.nc; have h2 := h.nd; have h3 := h.ns; have h4 := h.nb; have h0 := h; clear h
  simp only [true_and, and_true, inR, Prod.exists, Prod.forall, and_assoc, exists_and_left, exists_eq_left', exists_eq_left, forall_eq, exists_const, forall_const, loopN, loopM, fa2, fas, fas2, exhs, exhn, exhz, exho, exs1, exn1, exz1, exo1, exs2, exn2, exz2, exo2, exs3, exn3, exz3, exo3, exs4, exn4, exz4, exo4, exs5, exn5, exz5, exo5, exs6, exn6, exz6, exo6, exs7, exn7, exz7, exo7, exs8, exn8, exz8, exo8, exs9, exn9, exz9, exo9, ex1, ex2, ex3, ex4, ex5, beqI, bneI, decide_true, Bool.true_and, decide_eq_true_eq, decide_eq_false_iff_not, ne_eq, Decidable.not_not]
  have hcash : (allB b.nc fun i => within (b.cash i) 0 10000) = allB b.nc (cashOk b) := rfl
  have hfin : ∀ i, i ≤ b.ns → (sizesOk b && allB b.nc (cashOk b) && allB b.nd (debtOk b) && allB i (seasonOk b)) = (sizesOk b && allB b.nc (cashOk b) && allB b.nd (debtOk b) && allB b.ns (seasonOk b)) → ((!(sizesOk b && allB b.nc (cashOk b) && allB b.nd (debtOk b) && allB i (seasonOk b))) = true → 80 = errOf b) ∧ ((!(sizesOk b && allB b.nc (cashOk b) && allB b.nd (debtOk b) && allB i (seasonOk b))) = false → 0 = errOf b) := fun i _ e => by
    have e0 : errOf b = if (sizesOk b && allB b.nc (cashOk b) && allB b.nd (debtOk b) && allB b.ns (seasonOk b)) = true then 0 else 80 := rfl
    rw [e, e0]
    constructor
    · intro h; rw [Bool.not_eq_true'] at h; rw [h]; simp
    · intro h; rw [Bool.not_eq_false'] at h; rw [h]; simp
  refine ⟨fun e1 => ⟨b.cash, fun _ _ => rfl, h1, fun e2 => ⟨fun e3 => ?_, fun e3 => ?_⟩, fun e2 => ?_⟩, fun e1 => ?_, by omega, by simp [allB], fun i hi => ⟨fun e1 => ⟨fun e2 => ⟨by omega, by omega, by omega, by omega, fun e3 => ⟨by omega, by omega, fun e4 => ⟨fun e5 => ⟨by omega, by omega, by omega, by omega, ?_⟩, fun e5 => ⟨by omega, by omega, by omega, by omega, ?_⟩⟩, fun e4 => ⟨by omega, by omega, by omega, by omega, ?_⟩⟩, fun e3 => ⟨by omega, by omega, by omega, by omega, ?_⟩⟩, fun e2 => ?_⟩, fun e1 => ?_⟩, by omega, by simp [allB], fun i hi => ⟨fun e1 => ⟨fun e2 => ⟨by omega, by omega, fun e3 => ⟨by omega, by omega, b.bar i, fun _ _ => rfl, h4 i (by omega), by omega, by omega, by omega, by omega, ?_⟩, fun e3 => ⟨by omega, by omega, by omega, by omega, ?_⟩⟩, fun e2 => ?_⟩, fun e1 => ?_⟩⟩
  · rw [hcash] at e2; simp [sizesOk, e1, e2, e3]
  · simp [sizesOk, e1, e3]
  · rw [hcash] at e2; simp [e2]
  · simp [sizesOk, e1]
  · simp_all [allB, debtOk]
  · simp_all [allB, debtOk]
  · simp_all [allB, debtOk]
  · simp_all [allB, debtOk]
  · obtain rfl : i = b.nd := (by omega)
    rfl
  · rw [e1]; exact (and_allB_false e1 hi).symm
  · have hb : (allB (b.nb i) fun j => within (b.bar i j) 0 200) = allB (b.nb i) (barOk b i) := rfl
    rw [hb]
    simp only [allB, ← Bool.and_assoc, e1, seasonOk, e3, Bool.true_and]
  · simp_all [allB, seasonOk]
  · obtain rfl : i = b.ns := (by omega)
    exact hfin _ (Nat.le_refl _) rfl
  · exact hfin i hi (by rw [e1]; exact (and_allB_false e1 hi).symm)

def sHas : Sig := ⟨Book × Nat × Nat, fun x => [bookTV x.1, intC x.2.1, intC x.2.2], fun x => Good x.1 ∧ x.2.1 < x.1.ns ∧ x.2.2 < x.1.nc, fun x => [.v (intC (has x.1 x.2.1 x.2.2))]⟩
theorem q46 (x : sHas.α) (h : sHas.pre x) : CallQ Tryd.prog E0 46 (sHas.arg x) (sHas.res x) := by
  obtain ⟨b, s, p⟩ := x
  refine bare_with E0_ok TB0 TB0_ok runs [] [] (fuel := 5) ?_
  refine of_red (q := (0 : Int) ≤ (↑s : Int) ∧ (↑s : Int) < (↑b.ns : Int) ∧ (0 : Int) ≤ (↑p : Int) ∧ (↑p : Int) < (↑b.nc : Int) ∧ (0 : Int) ≤ (↑p : Int) ∧ (↑p : Int) < (↑(b.nb s) : Int) ∧ inRange IntKind.i64 (b.bar s p * b.price s) ∧ inRange IntKind.i64 (b.cash p + b.bar s p * b.price s) ∧ True ∧ b.cash p + b.bar s p * b.price s = has b (s, p).fst (s, p).snd) (by kernel_rfl) ?_
  simp only [true_and, and_true, inR, Prod.exists, Prod.forall, and_assoc, exists_and_left, exists_eq_left', exists_eq_left, forall_eq, exists_const, forall_const, loopN, loopM, fa2, fas, fas2, exhs, exhn, exhz, exho, exs1, exn1, exz1, exo1, exs2, exn2, exz2, exo2, exs3, exn3, exz3, exo3, exs4, exn4, exz4, exo4, exs5, exn5, exz5, exo5, exs6, exn6, exz6, exo6, exs7, exn7, exz7, exo7, exs8, exn8, exz8, exo8, exs9, exn9, exz9, exo9, ex1, ex2, ex3, ex4, ex5, beqI, bneI, decide_true, Bool.true_and, decide_eq_true_eq, decide_eq_false_iff_not, ne_eq, Decidable.not_not]
  obtain ⟨hg, hs, hp⟩ : Good b ∧ s < b.ns ∧ p < b.nc := h
  have hh := has_parts hg hs hp
  have e : has b s p = b.cash p + b.bar s p * b.price s := rfl
  omega

theorem q34 (x : sHas.α) (h : sHas.pre x) : CallQ Tryd.prog E0 34 (sHas.arg x) (sHas.res x) := by
  obtain ⟨b, s, p⟩ := x
  refine bare_with E0_ok TB0 TB0_ok runs [] [] (fuel := 5) ?_
  refine of_red (q := (0 : Int) ≤ (↑p : Int) ∧ (↑p : Int) < (↑b.nc : Int) ∧ (0 : Int) ≤ (↑s : Int) ∧ (↑s : Int) < (↑b.ns : Int) ∧ (0 : Int) ≤ (↑p : Int) ∧ (↑p : Int) < (↑(b.nb s) : Int) ∧ (0 : Int) ≤ (↑s : Int) ∧ (↑s : Int) < (↑b.ns : Int) ∧ inRange IntKind.i64 (b.bar s p * b.price s) ∧ inRange IntKind.i64 (b.cash p + b.bar s p * b.price s) ∧ True ∧ b.cash p + b.bar s p * b.price s = has b (s, p).fst (s, p).snd) (by kernel_rfl) ?_
  simp only [true_and, and_true, inR, Prod.exists, Prod.forall, and_assoc, exists_and_left, exists_eq_left', exists_eq_left, forall_eq, exists_const, forall_const, loopN, loopM, fa2, fas, fas2, exhs, exhn, exhz, exho, exs1, exn1, exz1, exo1, exs2, exn2, exz2, exo2, exs3, exn3, exz3, exo3, exs4, exn4, exz4, exo4, exs5, exn5, exz5, exo5, exs6, exn6, exz6, exo6, exs7, exn7, exz7, exo7, exs8, exn8, exz8, exo8, exs9, exn9, exz9, exo9, ex1, ex2, ex3, ex4, ex5, beqI, bneI, decide_true, Bool.true_and, decide_eq_true_eq, decide_eq_false_iff_not, ne_eq, Decidable.not_not]
  obtain ⟨hg, hs, hp⟩ : Good b ∧ s < b.ns ∧ p < b.nc := h
  have hh := has_parts hg hs hp
  have e : has b s p = b.cash p + b.bar s p * b.price s := rfl
  omega

def aHas (b : Book) (s : Nat) : Ann := { G := Nat, ok := fun _ i => i ≤ b.nc, dom := fun st => [st.nx], tm := fun st i => [(5, .t (.c (.os st.nx 1 i))), (6, .t (intC i))], hp := fun st i => [(st.nx, .slot 5, some (.row 3 1 i (fun j _ => .int .i64 (has b s j))))], mu := fun _ i => b.nc - i }
def sHas' : Sig := ⟨Book × Nat, fun x => [bookTV x.1, intC x.2], fun x => Good x.1 ∧ x.2 < x.1.ns, fun x => [.own 3 1 x.1.nc (fun j _ => .int .i64 (has x.1 x.2 j))]⟩
theorem q48 (x : sHas'.α) (h : sHas'.pre x) : CallQ Tryd.prog E0 48 (sHas'.arg x) (sHas'.res x) := by
  obtain ⟨b, s⟩ := x
  refine bare_with E0_ok TB0 TB0_ok runs [(48, 3, aHas b s)] [] (fuel := 5) ?_
  refine of_red (q := (∃ (g : Nat), g ≤ b.nc ∧ True ∧ ((True ∧ g = (0 : Nat)) ∧ (True ∧ (0 : Int) = (↑g : Int)) ∧ True) ∧ g = (0 : Nat) ∧ True) ∧ ∀ (g : Nat), g ≤ b.nc → (decide ((↑g : Int) < (↑b.nc : Int)) = true → (0 : Int) ≤ (↑g : Int) ∧ (↑g : Int) < (↑b.nc : Int) ∧ (0 : Int) ≤ (↑s : Int) ∧ (↑s : Int) < (↑b.ns : Int) ∧ (0 : Int) ≤ (↑g : Int) ∧ (↑g : Int) < (↑(b.nb s) : Int) ∧ (0 : Int) ≤ (↑s : Int) ∧ (↑s : Int) < (↑b.ns : Int) ∧ inRange IntKind.i64 (b.bar s g * b.price s) ∧ inRange IntKind.i64 (b.cash g + b.bar s g * b.price s) ∧ (g + (1 : Nat)) * (8 : Nat) ≤ (140737488355328 : Nat) ∧ g + (1 : Nat) < (4611686018427387904 : Nat) ∧ inRange IntKind.i64 ((↑g : Int) + (1 : Int)) ∧ ∃ (g' : Nat), g' ≤ b.nc ∧ b.nc - g' < b.nc - g ∧ True ∧ ((True ∧ True ∧ g + (1 : Nat) = g') ∧ (True ∧ (↑g : Int) + (1 : Int) = (↑g' : Int)) ∧ True) ∧ (True ∧ True ∧ g + (1 : Nat) = g' ∧ ∀ (i : Nat), i < g + (1 : Nat) → True ∧ (if i < g then has b s i else if i - g = ((0 : Nat), Operand.tmp (36 : Nat)).fst then b.cash g + b.bar s g * b.price s else (0 : Int)) = has b s i) ∧ True) ∧ (decide ((↑g : Int) < (↑b.nc : Int)) = false → True ∧ g = b.nc ∧ True ∧ True ∧ g = b.nc ∧ ∀ (i : Nat), i < g → True ∧ has b s i = has b s i)) (by kernel_rfl) ?_
  simp only [true_and, and_true, inR, Prod.exists, Prod.forall, and_assoc, exists_and_left, exists_eq_left', exists_eq_left, forall_eq, exists_const, forall_const, loopN, loopM, fa2, fas, fas2, exhs, exhn, exhz, exho, exs1, exn1, exz1, exo1, exs2, exn2, exz2, exo2, exs3, exn3, exz3, exo3, exs4, exn4, exz4, exo4, exs5, exn5, exz5, exo5, exs6, exn6, exz6, exo6, exs7, exn7, exz7, exo7, exs8, exn8, exz8, exo8, exs9, exn9, exz9, exo9, ex1, ex2, ex3, ex4, ex5, beqI, bneI, decide_true, Bool.true_and, decide_eq_true_eq, decide_eq_false_iff_not, ne_eq, Decidable.not_not]
  obtain ⟨hg, hs⟩ : Good b ∧ s < b.ns := h
  have hn := hg.nc
  refine ⟨by omega, rfl, fun i hi => ?_, fun _ _ => trivial⟩
  have hh := has_parts hg hs hi
  refine ⟨by omega, by omega, by omega, by omega, by omega, by omega, by omega, by omega, by omega, by omega, by omega, by omega, by omega, by omega, by omega, by omega, i + 1, by omega, by omega, rfl, by omega, rfl, fun j hj => ?_⟩
  by_cases e : j < i
  · rw [if_pos e]
  · obtain rfl : j = i := (by omega)
    rw [if_neg e, Nat.sub_self, if_pos rfl]; rfl
end Go.Proofs.YthofpbnbjkdpaaaDoor
