/- Plain mathematics: one season alone; a debt that is split in two, one behind the other. -/
import Derived.Test.YthofpbnbjkdpaaaDoorCxMath6
set_option linter.unusedSimpArgs false
set_option linter.unusedVariables false
namespace Cm
section
variable {b : Book} {S : Nat}
/-- One season alone. -/
def one (b : Book) (S : Nat) : Book := { b with ns := 1, price := fun _ => b.price S, nb := fun _ => b.nb S, bar := fun _ => b.bar S }

theorem one_it : ∀ k, it (one b S) 0 k = it b S k
  | 0 => rfl
  | k + 1 => by
    show pay (one b S) 0 (it (one b S) 0 k) = pay b S (it b S k)
    rw [one_it k]; rfl
theorem one_same : same (one b S) 0 = same b S := funext fun k => by
  unfold same
  rw [one_it, one_it]; rfl
theorem one_stop : stop (one b S) 0 = stop b S := by unfold stop; rw [one_same]
theorem one_clear : clear (one b S) 0 = clear b S := by unfold clear; rw [one_stop, one_it]
theorem one_brk : ∀ k, brk (one b S) 0 k = brk b S k
  | 0 => rfl
  | k + 1 => funext fun i => by
    simp only [brk, one_brk k, one_it]; rfl
theorem one_rnd : rnd (one b S) 0 = rnd b S := by unfold rnd; rw [one_stop, one_brk]
theorem one_good (g : Good b) (hS : S < b.ns) : Good (one b S) :=
  ⟨g.nc1, g.nc, g.nd, Nat.le_refl 1, by show 1 ≤ 6; omega, g.cash, g.frm, g.to, g.ne, g.due, fun _ _ => g.price S hS, fun _ _ => g.nb S hS, fun _ _ => g.bar S hS⟩

/-- Two of a list's numbers put together. -/
def J (d : Nat) (q : Nat → Int) (i : Nat) : Int := if i < d then q i else if i = d then q d + q (d + 1) else q (i + 1)

theorem sumN_J {d : Nat} {F : Nat → Int} : ∀ {k : Nat}, d < k → sumN (k + 1) F = sumN k (J d F)
  | 0, h => by omega
  | k + 1, h => by
    by_cases e : k = d
    · subst e
      have e1 : sumN k (J k F) = sumN k F := sumN_congr fun i hi => by unfold J; rw [if_pos hi]
      have e2 : J k F k = F k + F (k + 1) := by unfold J; rw [if_neg (by omega), if_pos rfl]
      show sumN k F + F k + F (k + 1) = sumN k (J k F) + J k F k
      rw [e1, e2]; omega
    · have ih := sumN_J (d := d) (F := F) (k := k) (by omega)
      have e2 : J d F (k + 1 - 1 + 0) = F (k + 1) := by unfold J; rw [if_neg (by omega), if_neg (by omega)]; rfl
      show sumN (k + 1) F + F (k + 1) = sumN k (J d F) + J d F k
      rw [ih]
      have e3 : J d F k = F (k + 1) := by unfold J; rw [if_neg (by omega), if_neg e]
      rw [e3]

/-- A debt is split in two. -/
def spl (b : Book) (d : Nat) (cut : Int) : Book := { b with
  nd := b.nd + 1
  frm := fun i => if i ≤ d then b.frm i else b.frm (i - 1)
  to := fun i => if i ≤ d then b.to i else b.to (i - 1)
  due := fun i => if i < d then b.due i else if i = d then cut else if i = d + 1 then b.due d - cut else b.due (i - 1) }

variable {d : Nat} {cut : Int}

theorem spl_good (g : Good b) (h : b.nd < 12) (hd : d < b.nd) (h1 : 1 ≤ cut) (h2 : cut ≤ b.due d - 1) : Good (spl b d cut) := by
  refine ⟨g.nc1, g.nc, by show b.nd + 1 ≤ 12; omega, g.ns1, g.ns, g.cash, fun k hk => ?_, fun k hk => ?_, fun k hk => ?_, fun k hk => ?_, g.price, g.nb, g.bar⟩ <;> have hk : k < b.nd + 1 := hk
  · show 0 ≤ (if k ≤ d then b.frm k else b.frm (k - 1)) ∧ (if k ≤ d then b.frm k else b.frm (k - 1)) < b.nc
    split
    · exact g.frm k (by omega)
    · exact g.frm (k - 1) (by omega)
  · show 0 ≤ (if k ≤ d then b.to k else b.to (k - 1)) ∧ (if k ≤ d then b.to k else b.to (k - 1)) < b.nc
    split
    · exact g.to k (by omega)
    · exact g.to (k - 1) (by omega)
  · show (if k ≤ d then b.frm k else b.frm (k - 1)) ≠ (if k ≤ d then b.to k else b.to (k - 1))
    split
    · exact g.ne k (by omega)
    · exact g.ne (k - 1) (by omega)
  · show 1 ≤ (if k < d then b.due k else if k = d then cut else if k = d + 1 then b.due d - cut else b.due (k - 1)) ∧ (if k < d then b.due k else if k = d then cut else if k = d + 1 then b.due d - cut else b.due (k - 1)) ≤ 10000
    have := g.due d hd
    split
    · exact g.due k (by omega)
    · split
      · omega
      · split
        · omega
        · exact g.due (k - 1) (by omega)

theorem J_lo {q : Nat → Int} {i : Nat} (h : i < d) : J d q i = q i := if_pos h
theorem J_at {q : Nat → Int} : J d q d = q d + q (d + 1) := by unfold J; rw [if_neg (Nat.lt_irrefl d), if_pos rfl]
theorem J_hi {q : Nat → Int} {i : Nat} (h1 : ¬ i < d) (h2 : ¬ i = d) : J d q i = q (i + 1) := by unfold J; rw [if_neg h1, if_neg h2]

theorem J_if {f : Nat → Int} {q : Nat → Int} {x : Int} {i : Nat} : J d (fun i => if (if i ≤ d then f i else f (i - 1)) = x then q i else 0) i = if f i = x then J d q i else 0 := by
  by_cases e1 : i < d
  · rw [J_lo e1, J_lo e1]
    show (if (if i ≤ d then f i else f (i - 1)) = x then q i else 0) = _
    rw [if_pos (by omega : i ≤ d)]
  · by_cases e2 : i = d
    · subst e2
      rw [J_at, J_at]
      show (if (if i ≤ i then f i else f (i - 1)) = x then q i else 0) + (if (if i + 1 ≤ i then f (i + 1) else f (i + 1 - 1)) = x then q (i + 1) else 0) = _
      rw [if_pos (Nat.le_refl i), if_neg (by omega : ¬ i + 1 ≤ i), Nat.add_sub_cancel]
      split <;> omega
    · rw [J_hi e1 e2, J_hi e1 e2]
      show (if (if i + 1 ≤ d then f (i + 1) else f (i + 1 - 1)) = x then q (i + 1) else 0) = _
      rw [if_neg (by omega : ¬ i + 1 ≤ d), Nat.add_sub_cancel]

theorem spl_gets (hd : d < b.nd) {q : Nat → Int} {x : Int} : gets (spl b d cut) q x (b.nd + 1) = gets b (J d q) x b.nd := by
  show sumN (b.nd + 1) (fun i => if (if i ≤ d then b.to i else b.to (i - 1)) = x then q i else 0) = sumN b.nd (fun i => if b.to i = x then J d q i else 0)
  rw [sumN_J hd]
  exact sumN_congr fun i _ => J_if

theorem spl_owes {x : Int} {k : Nat} (hk : d < k) : owes (spl b d cut) (spl b d cut).due x (k + 1) = owes b (J d (spl b d cut).due) x k := by
  show sumN (k + 1) (fun i => if (if i ≤ d then b.frm i else b.frm (i - 1)) = x then (spl b d cut).due i else 0) = sumN k (fun i => if b.frm i = x then J d (spl b d cut).due i else 0)
  rw [sumN_J hk]
  exact sumN_congr fun i _ => J_if

theorem spl_due (i : Nat) : J d (spl b d cut).due i = b.due i := by
  unfold J
  by_cases e1 : i < d
  · rw [if_pos e1]; show (if i < d then b.due i else _) = _; rw [if_pos e1]
  · rw [if_neg e1]
    by_cases e2 : i = d
    · subst e2
      rw [if_pos rfl]
      have h1 : (spl b i cut).due i = cut := by
        show (if i < i then b.due i else if i = i then cut else _) = _
        rw [if_neg (by omega), if_pos rfl]
      have h2 : (spl b i cut).due (i + 1) = b.due i - cut := by
        show (if i + 1 < i then b.due (i + 1) else if i + 1 = i then cut else if i + 1 = i + 1 then b.due i - cut else _) = _
        rw [if_neg (by omega), if_neg (by omega), if_pos rfl]
      omega
    · rw [if_neg e2]
      show (if i + 1 < d then b.due (i + 1) else if i + 1 = d then cut else if i + 1 = d + 1 then b.due d - cut else b.due (i + 1 - 1)) = _
      rw [if_neg (by omega), if_neg (by omega), if_neg (by omega), Nat.add_sub_cancel]

theorem spl_owes_lo {x : Int} {k : Nat} (hk : k ≤ d) : owes (spl b d cut) (spl b d cut).due x k = owes b b.due x k := by
  show sumN k (fun i => if (if i ≤ d then b.frm i else b.frm (i - 1)) = x then (spl b d cut).due i else 0) = _
  refine sumN_congr fun i hi => ?_
  have h1 : (spl b d cut).due i = b.due i := by
    show (if i < d then b.due i else _) = _
    rw [if_pos (by omega)]
  rw [if_pos (by omega : i ≤ d), h1]

theorem spl_pay (hd : d < b.nd) (h1 : 1 ≤ cut) (h2 : cut ≤ b.due d - 1) {q : Nat → Int} {i : Nat} : J d (pay (spl b d cut) S q) i = pay b S (J d q) i := by
  have hg := fun x => spl_gets (cut := cut) (q := q) (x := x) hd
  have hp : ∀ k, pay (spl b d cut) S q k = min (max 0 (has b S ((spl b d cut).frm k).toNat + gets b (J d q) ((spl b d cut).frm k) b.nd - owes (spl b d cut) (spl b d cut).due ((spl b d cut).frm k) k)) ((spl b d cut).due k) := fun k => by
    rw [← hg]; rfl
  have hb : pay b S (J d q) i = min (max 0 (has b S (b.frm i).toNat + gets b (J d q) (b.frm i) b.nd - owes b b.due (b.frm i) i)) (b.due i) := rfl
  by_cases e1 : i < d
  · rw [J_lo e1, hp, hb, spl_owes_lo (by omega)]
    have f1 : (spl b d cut).frm i = b.frm i := if_pos (by omega)
    have f2 : (spl b d cut).due i = b.due i := if_pos e1
    rw [f1, f2]
  · by_cases e2 : i = d
    · subst e2
      have f1 : (spl b i cut).frm i = b.frm i := if_pos (Nat.le_refl _)
      have f2 : (spl b i cut).frm (i + 1) = b.frm i := by
        show (if i + 1 ≤ i then _ else b.frm (i + 1 - 1)) = _
        rw [if_neg (by omega), Nat.add_sub_cancel]
      have f3 : (spl b i cut).due i = cut := by
        show (if i < i then b.due i else if i = i then cut else _) = _
        rw [if_neg (by omega), if_pos rfl]
      have f4 : (spl b i cut).due (i + 1) = b.due i - cut := by
        show (if i + 1 < i then b.due (i + 1) else if i + 1 = i then cut else if i + 1 = i + 1 then b.due i - cut else _) = _
        rw [if_neg (by omega), if_neg (by omega), if_pos rfl]
      have f5 : owes (spl b i cut) (spl b i cut).due (b.frm i) (i + 1) = owes b b.due (b.frm i) i + cut := by
        rw [owes_succ, spl_owes_lo (Nat.le_refl _), f1, if_pos rfl, f3]
      rw [J_at, hp, hp, hb, f1, f2, f3, f4, f5, spl_owes_lo (Nat.le_refl _)]
      omega
    · rw [J_hi e1 e2, hp, hb]
      have f1 : (spl b d cut).frm (i + 1) = b.frm i := by
        show (if i + 1 ≤ d then _ else b.frm (i + 1 - 1)) = _
        rw [if_neg (by omega), Nat.add_sub_cancel]
      have f2 : (spl b d cut).due (i + 1) = b.due i := by
        show (if i + 1 < d then b.due (i + 1) else if i + 1 = d then cut else if i + 1 = d + 1 then b.due d - cut else b.due (i + 1 - 1)) = _
        rw [if_neg (by omega), if_neg (by omega), if_neg (by omega), Nat.add_sub_cancel]
      have f3 : owes b (J d (spl b d cut).due) (b.frm i) i = owes b b.due (b.frm i) i := sumN_congr fun j _ => by rw [spl_due]
      rw [f1, f2, spl_owes (by omega), f3]

theorem spl_it (hd : d < b.nd) (h1 : 1 ≤ cut) (h2 : cut ≤ b.due d - 1) : ∀ k i, i < b.nd → J d (it (spl b d cut) S k) i = it b S k i
  | 0, i, _ => spl_due i
  | k + 1, i, hi => by
    show J d (pay (spl b d cut) S (it (spl b d cut) S k)) i = pay b S (it b S k) i
    rw [spl_pay hd h1 h2]
    exact pay_congr fun j hj => spl_it hd h1 h2 k j hj

theorem spl_clear (g : Good b) (h : b.nd < 12) (hd : d < b.nd) (h1 : 1 ≤ cut) (h2 : cut ≤ b.due d - 1) {i : Nat} (hi : i < b.nd) : J d (clear (spl b d cut) S) i = clear b S i := by
  have gx := spl_good g h hd h1 h2
  have hk := spl_it (S := S) hd h1 h2 (max (stop b S) (stop (spl b d cut) S)) i hi
  rw [it_stop g (by omega) hi] at hk
  rw [← hk]
  have hs : ∀ j, j < b.nd + 1 → it (spl b d cut) S (max (stop b S) (stop (spl b d cut) S)) j = clear (spl b d cut) S j := fun j hj => it_stop gx (by omega) hj
  unfold J
  split
  · rw [hs i (by omega)]
  · split
    · rw [hs d (by omega), hs (d + 1) (by omega)]
    · rw [hs (i + 1) (by omega)]
end
end Cm
