/- Plain mathematics for the books of contracts: data, sums, tests over all. -/
import Derived.Test.YthofpbnbjkdpaaaDoorSxSimp
set_option linter.unusedSimpArgs false
set_option linter.unusedVariables false
namespace Cm

/-- Is something so of all numbers below n? -/
def allB : Nat → (Nat → Bool) → Bool
  | 0, _ => true
  | n + 1, p => allB n p && p n

def sumN : Nat → (Nat → Int) → Int
  | 0, _ => 0
  | n + 1, f => sumN n f + f n

theorem allB_iff {n : Nat} {p : Nat → Bool} : allB n p = true ↔ ∀ i, i < n → p i = true := by
  induction n with
  | zero => simp [allB]
  | succ n ih =>
    simp only [allB, Bool.and_eq_true, ih]
    constructor
    · rintro ⟨h1, h2⟩ i hi
      by_cases e : i = n
      · subst e; exact h2
      · exact h1 i (by omega)
    · exact fun h => ⟨fun i hi => h i (by omega), h n (by omega)⟩

theorem allB_le {n m : Nat} {p : Nat → Bool} (h : allB m p = true) (hn : n ≤ m) : allB n p = true :=
  allB_iff.2 fun i hi => allB_iff.1 h i (by omega)

theorem allB_false {n m : Nat} {p : Nat → Bool} (h : allB n p = false) (hn : n ≤ m) : allB m p = false := by
  cases e : allB m p with
  | false => rfl
  | true => rw [allB_le e hn] at h; simp at h

theorem and_allB_false {x : Bool} {n m : Nat} {p : Nat → Bool} (h : (x && allB n p) = false) (hn : n ≤ m) : (x && allB m p) = false := by
  rcases Bool.and_eq_false_iff.1 h with h | h
  · rw [h]; rfl
  · rw [allB_false h hn, Bool.and_false]

theorem allB_congr {n : Nat} {p q : Nat → Bool} (h : ∀ i, i < n → p i = q i) : allB n p = allB n q := by
  induction n with
  | zero => rfl
  | succ n ih => simp only [allB, ih (fun i hi => h i (by omega)), h n (by omega)]

theorem sumN_congr {n : Nat} {f g : Nat → Int} (h : ∀ i, i < n → f i = g i) : sumN n f = sumN n g := by
  induction n with
  | zero => rfl
  | succ n ih => simp only [sumN, ih (fun i hi => h i (by omega)), h n (by omega)]

theorem sumN_le {n : Nat} {f g : Nat → Int} (h : ∀ i, i < n → f i ≤ g i) : sumN n f ≤ sumN n g := by
  induction n with
  | zero => simp [sumN]
  | succ n ih =>
    have h1 := ih (fun i hi => h i (by omega))
    have h2 := h n (by omega)
    simp only [sumN]; omega

theorem sumN_nonneg {n : Nat} {f : Nat → Int} (h : ∀ i, i < n → 0 ≤ f i) : 0 ≤ sumN n f := by
  induction n with
  | zero => simp [sumN]
  | succ n ih =>
    have h1 := ih (fun i hi => h i (by omega))
    have h2 := h n (by omega)
    simp only [sumN]; omega

theorem sumN_bound {n : Nat} {f : Nat → Int} {M : Int} (h : ∀ i, i < n → f i ≤ M) : sumN n f ≤ n * M := by
  induction n with
  | zero => simp [sumN]
  | succ n ih =>
    have h1 := ih (fun i hi => h i (by omega))
    have h2 := h n (by omega)
    have : ((n + 1 : Nat) : Int) * M = n * M + M := by rw [Int.natCast_add, Int.add_mul]; simp
    simp only [sumN, this]; omega

theorem sumN_mono {n m : Nat} {f : Nat → Int} (h : ∀ i, i < m → 0 ≤ f i) (hn : n ≤ m) : sumN n f ≤ sumN m f := by
  induction m with
  | zero => obtain rfl : n = 0 := (by omega); exact Int.le_refl _
  | succ m ih =>
    by_cases e : n = m + 1
    · subst e; exact Int.le_refl _
    · have h1 := ih (fun i hi => h i (by omega)) (by omega)
      have h2 := h m (by omega)
      simp only [sumN]; omega

theorem sumN_add {n : Nat} {f g : Nat → Int} : sumN n (fun i => f i + g i) = sumN n f + sumN n g := by
  induction n with
  | zero => rfl
  | succ n ih => simp only [sumN, ih]; omega

theorem sumN_sub {n : Nat} {f g : Nat → Int} : sumN n (fun i => f i - g i) = sumN n f - sumN n g := by
  induction n with
  | zero => rfl
  | succ n ih => simp only [sumN, ih]; omega

theorem sumN_zero {n : Nat} : sumN n (fun _ => 0) = 0 := by
  induction n with
  | zero => rfl
  | succ n ih => simp only [sumN, ih]; omega

/-- Sums over two numbers, the other way round. -/
theorem sumN_swap {n m : Nat} {f : Nat → Nat → Int} : sumN n (fun i => sumN m (fun j => f i j)) = sumN m (fun j => sumN n (fun i => f i j)) := by
  induction n with
  | zero => exact (sumN_zero).symm
  | succ n ih => simp only [sumN, ih, ← sumN_add]

/-- Just one place has something. -/
theorem sumN_one {n : Nat} {k : Nat} {x : Int} (h : k < n) : sumN n (fun i => if i = k then x else 0) = x := by
  induction n with
  | zero => omega
  | succ n ih =>
    simp only [sumN]
    by_cases e : k = n
    · subst e
      rw [sumN_congr (g := fun _ => 0) (fun i hi => by simp; omega), sumN_zero]; simp
    · rw [ih (by omega), if_neg (fun h => e h.symm)]; omega

/-- A book. -/
structure Book where
  nc : Nat
  cash : Nat → Int
  nd : Nat
  frm : Nat → Int
  to : Nat → Int
  due : Nat → Int
  ns : Nat
  price : Nat → Int
  nb : Nat → Nat
  bar : Nat → Nat → Int

/-- Its lists are such as there can be. -/
structure Book.wf (b : Book) : Prop where
  nc : b.nc < 4611686018427387904
  nd : b.nd < 4611686018427387904
  ns : b.ns < 4611686018427387904
  nb : ∀ s, s < b.ns → b.nb s < 4611686018427387904

def within (n lo hi : Int) : Bool := decide (lo ≤ n) && decide (n ≤ hi)

theorem within_iff {n lo hi : Int} : within n lo hi = true ↔ lo ≤ n ∧ n ≤ hi := by simp [within]

def cashOk (b : Book) (i : Nat) : Bool := within (b.cash i) 0 10000
def debtOk (b : Book) (k : Nat) : Bool := within (b.frm k) 0 (b.nc - 1) && within (b.to k) 0 (b.nc - 1) && decide (b.frm k ≠ b.to k) && within (b.due k) 1 10000
def barOk (b : Book) (s i : Nat) : Bool := within (b.bar s i) 0 200
def seasonOk (b : Book) (s : Nat) : Bool := within (b.price s) 0 100 && decide ((b.nb s : Int) = b.nc) && allB (b.nb s) (barOk b s)
def sizesOk (b : Book) : Bool := within b.nc 1 6 && decide ((b.nd : Int) ≤ 12) && within b.ns 1 6

/-- Is it a book? -/
def chk (b : Book) : Bool := sizesOk b && allB b.nc (cashOk b) && allB b.nd (debtOk b) && allB b.ns (seasonOk b)

def errOf (b : Book) : Int := if chk b then 0 else 80

/-- What is known of a book. -/
structure Good (b : Book) : Prop where
  nc1 : 1 ≤ b.nc
  nc : b.nc ≤ 6
  nd : b.nd ≤ 12
  ns1 : 1 ≤ b.ns
  ns : b.ns ≤ 6
  cash : ∀ i, i < b.nc → 0 ≤ b.cash i ∧ b.cash i ≤ 10000
  frm : ∀ k, k < b.nd → 0 ≤ b.frm k ∧ b.frm k < b.nc
  to : ∀ k, k < b.nd → 0 ≤ b.to k ∧ b.to k < b.nc
  ne : ∀ k, k < b.nd → b.frm k ≠ b.to k
  due : ∀ k, k < b.nd → 1 ≤ b.due k ∧ b.due k ≤ 10000
  price : ∀ s, s < b.ns → 0 ≤ b.price s ∧ b.price s ≤ 100
  nb : ∀ s, s < b.ns → b.nb s = b.nc
  bar : ∀ s, s < b.ns → ∀ i, i < b.nc → 0 ≤ b.bar s i ∧ b.bar s i ≤ 200

theorem good {b : Book} (h : chk b = true) : Good b := by
  simp only [chk, sizesOk, Bool.and_eq_true, allB_iff, within_iff, decide_eq_true_eq] at h
  obtain ⟨⟨⟨⟨⟨h1, h2⟩, h3⟩, h4⟩, h5⟩, h6⟩ := h
  have h6' : ∀ s, s < b.ns → (0 ≤ b.price s ∧ b.price s ≤ 100) ∧ b.nb s = b.nc ∧ ∀ i, i < b.nb s → 0 ≤ b.bar s i ∧ b.bar s i ≤ 200 := fun s hs => by
    have := h6 s hs
    simp only [seasonOk, Bool.and_eq_true, allB_iff, within_iff, decide_eq_true_eq, barOk] at this
    exact ⟨this.1.1, by omega, this.2⟩
  have h5' : ∀ k, k < b.nd → _ := fun k hk => by
    have := h5 k hk
    simp only [debtOk, Bool.and_eq_true, within_iff, decide_eq_true_eq] at this
    exact this
  refine ⟨by omega, by omega, by omega, by omega, by omega, fun i hi => ?_, fun k hk => ?_, fun k hk => ?_, fun k hk => ?_, fun k hk => ?_, fun s hs => (h6' s hs).1, fun s hs => (h6' s hs).2.1, fun s hs i hi => (h6' s hs).2.2 i (by rw [(h6' s hs).2.1]; exact hi)⟩
  · have := h4 i hi; simp only [cashOk, within_iff] at this; exact this
  · have := h5' k hk; omega
  · have := h5' k hk; omega
  · exact (h5' k hk).1.2
  · exact (h5' k hk).2

theorem err_zero {b : Book} : errOf b = 0 ↔ chk b = true := by
  unfold errOf; split <;> simp_all

/-! ### What is paid -/

def has (b : Book) (s p : Nat) : Int := b.cash p + b.bar s p * b.price s

/-- What a party gets by payments. -/
def gets (b : Book) (p : Nat → Int) (x : Int) (k : Nat) : Int := sumN k fun i => if b.to i = x then p i else 0
def owes (b : Book) (p : Nat → Int) (x : Int) (k : Nat) : Int := sumN k fun i => if b.frm i = x then p i else 0

/-- What is left to a party before its debt number k is paid. -/
def left (b : Book) (s : Nat) (p : Nat → Int) (x : Int) (k : Nat) : Int :=
  max 0 (has b s x.toNat + gets b p x b.nd - owes b b.due x k)

/-- What is paid of each debt, by payments. -/
def pay (b : Book) (s : Nat) (p : Nat → Int) (k : Nat) : Int := min (left b s p (b.frm k) k) (b.due k)

theorem has_bd {b : Book} (g : Good b) {s p : Nat} (hs : s < b.ns) (hp : p < b.nc) : 0 ≤ has b s p ∧ has b s p ≤ 30000 := by
  obtain ⟨a1, a2⟩ := g.cash p hp
  obtain ⟨b1, b2⟩ := g.bar s hs p hp
  obtain ⟨c1, c2⟩ := g.price s hs
  have h0 : 0 ≤ b.bar s p * b.price s := Int.mul_nonneg b1 c1
  have h1 : b.bar s p * b.price s ≤ 200 * 100 := Int.mul_le_mul b2 c2 c1 (by omega)
  unfold has; omega

theorem has_parts {b : Book} (g : Good b) {s p : Nat} (hs : s < b.ns) (hp : p < b.nc) : 0 ≤ b.bar s p * b.price s ∧ b.bar s p * b.price s ≤ 20000 ∧ 0 ≤ b.cash p ∧ b.cash p ≤ 10000 ∧ p < b.nb s := by
  obtain ⟨a1, a2⟩ := g.cash p hp
  obtain ⟨b1, b2⟩ := g.bar s hs p hp
  obtain ⟨c1, c2⟩ := g.price s hs
  have h0 : 0 ≤ b.bar s p * b.price s := Int.mul_nonneg b1 c1
  have h1 : b.bar s p * b.price s ≤ 200 * 100 := Int.mul_le_mul b2 c2 c1 (by omega)
  have := g.nb s hs
  omega

/-- Payments that can be. -/
def Pays (b : Book) (p : Nat → Int) : Prop := ∀ k, k < b.nd → 0 ≤ p k ∧ p k ≤ b.due k

theorem gets_bd {b : Book} (g : Good b) {p : Nat → Int} (hp : Pays b p) (x : Int) (k : Nat) (hk : k ≤ b.nd) : 0 ≤ gets b p x k ∧ gets b p x k ≤ 120000 := by
  have h : ∀ i, i < k → 0 ≤ (if b.to i = x then p i else 0) ∧ (if b.to i = x then p i else 0) ≤ 10000 := fun i hi => by
    have h1 := hp i (by omega); have h2 := g.due i (by omega)
    split <;> omega
  refine ⟨sumN_nonneg fun i hi => (h i hi).1, ?_⟩
  have h1 := sumN_bound (fun i hi => (h i hi).2)
  have h2 := g.nd
  have h3 : (k : Int) * 10000 ≤ 12 * 10000 := by omega
  exact Int.le_trans h1 h3

theorem owes_bd {b : Book} (g : Good b) {p : Nat → Int} (hp : Pays b p) (x : Int) (k : Nat) (hk : k ≤ b.nd) : 0 ≤ owes b p x k ∧ owes b p x k ≤ 120000 := by
  have h : ∀ i, i < k → 0 ≤ (if b.frm i = x then p i else 0) ∧ (if b.frm i = x then p i else 0) ≤ 10000 := fun i hi => by
    have h1 := hp i (by omega); have h2 := g.due i (by omega)
    split <;> omega
  refine ⟨sumN_nonneg fun i hi => (h i hi).1, ?_⟩
  have h1 := sumN_bound (fun i hi => (h i hi).2)
  have h2 := g.nd
  have h3 : (k : Int) * 10000 ≤ 12 * 10000 := by omega
  exact Int.le_trans h1 h3

theorem pays_due {b : Book} (g : Good b) : Pays b b.due := fun k hk => by have := g.due k hk; omega

theorem pays_pay {b : Book} (g : Good b) {s : Nat} {p : Nat → Int} : Pays b (pay b s p) := fun k hk => by
  have := g.due k hk
  simp only [pay, left]; omega

theorem left_bd {b : Book} (g : Good b) {s : Nat} (hs : s < b.ns) {p : Nat → Int} (hp : Pays b p) {x : Int} (hx : 0 ≤ x ∧ x < b.nc) {k : Nat} (hk : k ≤ b.nd) : 0 ≤ left b s p x k ∧ left b s p x k ≤ 150000 := by
  have h1 := has_bd g hs (p := x.toNat) (by omega)
  have h2 := gets_bd g hp x b.nd (Nat.le_refl _)
  have h3 := owes_bd g (pays_due g) x k hk
  simp only [left]; omega

/-- What is left, debt by debt. -/
theorem left_zero {b : Book} (g : Good b) {s : Nat} (hs : s < b.ns) {p : Nat → Int} (hp : Pays b p) {x : Int} (hx : 0 ≤ x ∧ x < b.nc) : left b s p x 0 = has b s x.toNat + gets b p x b.nd := by
  have h1 := has_bd g hs (p := x.toNat) (by omega)
  have h2 := gets_bd g hp x b.nd (Nat.le_refl _)
  simp only [left, owes, sumN]; omega

theorem left_own {b : Book} (g : Good b) {s : Nat} {p : Nat → Int} {k : Nat} (hk : k < b.nd) : left b s p (b.frm k) (k + 1) = left b s p (b.frm k) k - pay b s p k := by
  have := g.due k hk
  simp only [pay, left, owes, sumN, if_pos]
  omega

theorem left_other {b : Book} {s : Nat} {p : Nat → Int} {k : Nat} {x : Int} (h : b.frm k ≠ x) : left b s p x (k + 1) = left b s p x k := by
  simp only [left, owes, sumN, if_neg h]; simp

theorem st12 {k g : Nat} {x : Int} {f : Nat → Int} (h : x = f g) : (if k = 0 + g * 1 + 0 then x else if k < g then f k else 0) = if k < g + 1 then f k else 0 := by
  by_cases e : k = g
  · subst e; rw [if_pos (by omega), if_pos (by omega), h]
  · rw [if_neg (by omega)]
    by_cases e2 : k < g
    · rw [if_pos e2, if_pos (by omega)]
    · rw [if_neg e2, if_neg (by omega)]

theorem stApp {i j : Nat} {x : Int} {f : Nat → Int} (h : x = f i) (hj : j < i + 1) : (if j < i then f j else if j - i = 0 then x else 0) = f j := by
  by_cases e : j < i
  · rw [if_pos e]
  · obtain rfl : j = i := (by omega)
    rw [if_neg e, Nat.sub_self, if_pos rfl, h]

theorem toNat_cast {x : Int} (h : 0 ≤ x) : ((x.toNat : Nat) : Int) = x := by omega

theorem gets_succ {b : Book} {p : Nat → Int} {x : Int} {k : Nat} : gets b p x (k + 1) = gets b p x k + if b.to k = x then p k else 0 := rfl
theorem owes_succ {b : Book} {p : Nat → Int} {x : Int} {k : Nat} : owes b p x (k + 1) = owes b p x k + if b.frm k = x then p k else 0 := rfl

theorem imax_eq (a c : Int) : Go.Sx.imax a c = max a c := by unfold Go.Sx.imax; split <;> omega

theorem imin_eq (a c : Int) : Go.Sx.imin a c = min a c := by unfold Go.Sx.imin; split <;> omega

end Cm
namespace Go.Sx

def nums (n : Nat) (f : Nat → Int) : CV := .vs 1 n (fun i _ => .int .i64 (f i))
def bookTV (b : Cm.Book) : TV := .a 3 (ofList [nums b.nc b.cash, .vs 3 b.nd (fun i => ofList [.int .i64 (b.frm i), .int .i64 (b.to i), .int .i64 (b.due i)]), .vs 2 b.ns (fun i => ofList [.int .i64 (b.price i), nums (b.nb i) (b.bar i)])])
def intC (n : Int) : TV := .c (.int .i64 n)



end Go.Sx
