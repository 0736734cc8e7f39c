/- Plain mathematics: the same debts, and more to pay them with. -/
import Derived.Test.YthofpbnbjkdpaaaDoorCxMath5
set_option linter.unusedSimpArgs false
set_option linter.unusedVariables false
namespace Cm
/-- The same debts, other means. -/
def alt (b : Book) (c r : Nat → Int) (a : Nat → Nat → Int) : Book := { b with cash := c, price := r, bar := a }
section
variable {b : Book} {c r : Nat → Int} {a : Nat → Nat → Int}

theorem alt_good (g : Good b) (hc : ∀ i, i < b.nc → 0 ≤ c i ∧ c i ≤ 10000) (hr : ∀ s, s < b.ns → 0 ≤ r s ∧ r s ≤ 100) (ha : ∀ s, s < b.ns → ∀ i, i < b.nc → 0 ≤ a s i ∧ a s i ≤ 200) : Good (alt b c r a) :=
  ⟨g.nc1, g.nc, g.nd, g.ns1, g.ns, hc, g.frm, g.to, g.ne, g.due, hr, g.nb, ha⟩

variable {s : Nat}

theorem more_pay (g : Good b) (h : ∀ p, p < b.nc → has b s p ≤ has (alt b c r a) s p) {p q : Nat → Int} (hp : ∀ i, i < b.nd → p i ≤ q i) {k : Nat} (hk : k < b.nd) : pay b s p k ≤ pay (alt b c r a) s q k := by
  have h1 : gets b p (b.frm k) b.nd ≤ gets b q (b.frm k) b.nd := sumN_le fun i hi => by
    have := hp i hi
    split <;> omega
  have h2 := h (b.frm k).toNat (by have := g.frm k hk; omega)
  show min (max 0 (has b s (b.frm k).toNat + gets b p (b.frm k) b.nd - owes b b.due (b.frm k) k)) (b.due k) ≤ min (max 0 (has (alt b c r a) s (b.frm k).toNat + gets b q (b.frm k) b.nd - owes b b.due (b.frm k) k)) (b.due k)
  omega

theorem more_it (g : Good b) (h : ∀ p, p < b.nc → has b s p ≤ has (alt b c r a) s p) : ∀ k i, i < b.nd → it b s k i ≤ it (alt b c r a) s k i
  | 0, _, _ => Int.le_refl _
  | k + 1, _, hi => more_pay g h (fun j hj => more_it g h k j hj) hi

theorem more_clear (g : Good b) (h : ∀ p, p < b.nc → has b s p ≤ has (alt b c r a) s p) {i : Nat} (hi : i < b.nd) : clear b s i ≤ clear (alt b c r a) s i :=
  Int.le_trans (clear_le g (stop (alt b c r a) s) i hi) (more_it g h _ i hi)

theorem more_rnd (g : Good b) (gx : Good (alt b c r a)) (h : ∀ p, p < b.nc → has b s p ≤ has (alt b c r a) s p) {i : Nat} (hi : i < b.nd) (h0 : 0 < rnd (alt b c r a) s i) : 0 < rnd b s i ∧ rnd b s i ≤ rnd (alt b c r a) s i := by
  have h1 : it (alt b c r a) s (rnd (alt b c r a) s i).toNat i < b.due i := (rnd_at gx hi h0).1
  have h2 := more_it g h (rnd (alt b c r a) s i).toNat i hi
  have h3 := rnd_of (s := s) g hi (r := (rnd (alt b c r a) s i).toNat) (by omega)
  omega

theorem more_ln {p : Nat} : ∀ k, (∀ s, s < k → has b s p ≤ has (alt b c r a) s p) → ln (alt b c r a) p k ≤ ln b p k
  | 0, _ => Int.le_refl _
  | k + 1, h => by
    have h1 := more_ln k fun s hs => h s (by omega)
    have h2 := h k (by omega)
    show max (ln (alt b c r a) p k) (owes b b.due p b.nd - gets b b.due p b.nd - has (alt b c r a) k p) ≤ max (ln b p k) (owes b b.due p b.nd - gets b b.due p b.nd - has b k p)
    omega

theorem more_cash {p : Nat} {v : Int} (h : b.cash p ≤ v) (s i : Nat) : has b s i ≤ has (alt b (fun i => if i = p then v else b.cash i) b.price b.bar) s i := by
  show b.cash i + b.bar s i * b.price s ≤ (if i = p then v else b.cash i) + b.bar s i * b.price s
  split
  · rename_i e; subst e; omega
  · omega

theorem more_bar {s0 p : Nat} {v : Int} (h : b.bar s0 p ≤ v) {s i : Nat} (hp : 0 ≤ b.price s) : has b s i ≤ has (alt b b.cash b.price (fun s i => if s = s0 then (if i = p then v else b.bar s0 i) else b.bar s i)) s i := by
  show b.cash i + b.bar s i * b.price s ≤ b.cash i + (if s = s0 then (if i = p then v else b.bar s0 i) else b.bar s i) * b.price s
  have : b.bar s i ≤ (if s = s0 then (if i = p then v else b.bar s0 i) else b.bar s i) := by
    split
    · rename_i e; subst e
      split
      · rename_i e; subst e; exact h
      · exact Int.le_refl _
    · exact Int.le_refl _
  have := Int.mul_le_mul_of_nonneg_right this hp
  omega

theorem more_price {s0 : Nat} {v : Int} (h : b.price s0 ≤ v) {s i : Nat} (hb : 0 ≤ b.bar s i) : has b s i ≤ has (alt b b.cash (fun s => if s = s0 then v else b.price s) b.bar) s i := by
  show b.cash i + b.bar s i * b.price s ≤ b.cash i + b.bar s i * (if s = s0 then v else b.price s)
  have : b.price s ≤ (if s = s0 then v else b.price s) := by
    split
    · rename_i e; subst e; exact h
    · exact Int.le_refl _
  have := Int.mul_le_mul_of_nonneg_left this hb
  omega
end
end Cm
