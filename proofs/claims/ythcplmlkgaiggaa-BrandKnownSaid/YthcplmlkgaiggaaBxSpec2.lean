/- What the functions about brands answer, in plain Lean: how many can be below. -/
import Derived.Test.YthcplmlkgaiggaaBxSpec
set_option linter.unusedSimpArgs false
set_option linter.unusedVariables false
namespace Bm
/-- The last number below j of which something is so. -/
def lst (p : Nat → Bool) : Nat → Nat
  | 0 => 0
  | j + 1 => if p j then j else lst p j
def mxN (a : Int) (f : Nat → Int) : Nat → Int
  | 0 => a
  | k + 1 => max (mxN a f k) (f k)
structure BInv (p : Nat → Bool) (j c : Nat) (f : Nat → Int) : Prop where
  none : c = 0 → ∀ i, i < j → p i = false
  some : 0 < c → fst p j < j ∧ f 0 = fst p j ∧ f (c - 1) = lst p j ∧ ∀ i, i < c → f i ≤ lst p j
  le : c ≤ j
theorem lst_le {p : Nat → Bool} : ∀ {j : Nat}, 0 < j → lst p j < j
  | 0, h => absurd h (Nat.not_lt_zero _)
  | j + 1, _ => by
    unfold lst
    split
    · omega
    · by_cases e : j = 0
      · subst e; simp [lst]
      · have := lst_le (p := p) (j := j) (by omega); omega
theorem BInv.start {p : Nat → Bool} {f : Nat → Int} : BInv p 0 0 f := ⟨fun _ i h => absurd h (Nat.not_lt_zero i), fun h => absurd h (Nat.lt_irrefl 0), Nat.le_refl 0⟩
theorem BInv.no {p : Nat → Bool} {j c : Nat} {f : Nat → Int} (h : BInv p j c f) (hp : p j = false) : BInv p (j + 1) c f := by
  refine ⟨fun h0 i hi => ?_, fun h0 => ?_, by have := h.le; omega⟩
  · by_cases e : i = j
    · subst e; exact hp
    · exact h.none h0 i (by omega)
  · obtain ⟨h1, h2, h3, h4⟩ := h.some h0
    have e1 : fst p (j + 1) = fst p j := by show (if fst p j < j then fst p j else _) = _; rw [if_pos h1]
    have e2 : lst p (j + 1) = lst p j := by show (if p j then j else lst p j) = _; rw [hp]; rfl
    rw [e1, e2]
    exact ⟨by omega, h2, h3, h4⟩
theorem BInv.yes {p : Nat → Bool} {j c : Nat} {f : Nat → Int} (h : BInv p j c f) (hp : p j = true) : BInv p (j + 1) (c + 1) (fun i => if i < c then f i else (j : Int)) := by
  have hle := h.le
  refine ⟨fun h0 => by omega, fun _ => ?_, by omega⟩
  have e2 : lst p (j + 1) = j := by show (if p j then j else lst p j) = _; rw [hp]; rfl
  rw [e2]
  by_cases hc : c = 0
  · subst hc
    have e1 : fst p (j + 1) = j := fst_of (by omega) hp (h.none rfl)
    rw [e1]
    exact ⟨by omega, by simp, by simp, fun i _ => by simp⟩
  · obtain ⟨h1, h2, h3, h4⟩ := h.some (by omega)
    have e1 : fst p (j + 1) = fst p j := by show (if fst p j < j then fst p j else _) = _; rw [if_pos h1]
    have hl := lst_le (p := p) (j := j) (by omega)
    rw [e1]
    refine ⟨by omega, by rw [if_pos (by omega)]; exact h2, by rw [if_neg (by omega)], fun i hi => ?_⟩
    show (if i < c then f i else (j : Int)) ≤ (j : Int)
    split
    · rename_i h5; have := h4 i h5; omega
    · omega
theorem mxN_le {a : Int} {f : Nat → Int} {M : Int} (ha : a ≤ M) : ∀ {k : Nat}, (∀ i, i < k → f i ≤ M) → mxN a f k ≤ M
  | 0, _ => ha
  | k + 1, h => by
    have h1 := mxN_le ha (f := f) (k := k) (fun i hi => h i (by omega))
    have h2 := h k (by omega)
    unfold mxN
    omega
theorem mxN_ge {a : Int} {f : Nat → Int} : ∀ {k i : Nat}, i < k → f i ≤ mxN a f k
  | 0, i, h => absurd h (Nat.not_lt_zero i)
  | k + 1, i, h => by
    unfold mxN
    by_cases e : i = k
    · subst e; omega
    · have := mxN_ge (a := a) (f := f) (k := k) (i := i) (by omega); omega
theorem BInv.max {p : Nat → Bool} {j c : Nat} {f : Nat → Int} (h : BInv p j c f) (hc : 0 < c) : mxN (f 0) f c = lst p j := by
  obtain ⟨h1, h2, h3, h4⟩ := h.some hc
  have a := mxN_le (a := f 0) (f := f) (M := lst p j) (h4 0 hc) (k := c) h4
  have b := mxN_ge (a := f 0) (f := f) (k := c) (i := c - 1) (by omega)
  omega

def few (N o f : Nat) (dO dI : Int) (b : Nat) : Prop := dO * ch N o < (F N b o f : Int) * dI
def many (N o f : Nat) (dO dI : Int) (b : Nat) : Prop := dO * ch N o < (fnd N b o f o : Int) * dI
def okB (N o f : Nat) (dO dI : Int) (b : Nat) : Bool := decide (dO * ch N o < (F N b o f : Int) * dI) && decide (dO * ch N o < (fnd N b o f o : Int) * dI)
theorem okB_iff {N o f : Nat} {dO dI : Int} {b : Nat} : okB N o f dO dI b = true ↔ few N o f dO dI b ∧ many N o f dO dI b := by simp [okB, few, many]
def belE (N o f dO dI : Int) : Int := if (within N 1 40 && within o 0 N && within f 0 o) then (if oddsOk dO dI then (if fst (okB N.toNat o.toNat f.toNat dO dI) (N.toNat + 1) < N.toNat + 1 then 0 else 4) else 71) else 7
def belL (N o f dO dI : Int) : Int := if belE N o f dO dI = 0 then (fst (okB N.toNat o.toNat f.toNat dO dI) (N.toNat + 1) : Nat) else 0
def belH (N o f dO dI : Int) : Int := if belE N o f dO dI = 0 then (lst (okB N.toNat o.toNat f.toNat dO dI) (N.toNat + 1) : Nat) else 0
theorem bel_7 {N o f dO dI : Int} (h : ¬ (within N 1 40 && within o 0 N && within f 0 o) = true) : 0 = belL N o f dO dI ∧ 0 = belH N o f dO dI ∧ 7 = belE N o f dO dI := by
  have e : belE N o f dO dI = 7 := if_neg h
  exact ⟨(if_neg (by omega)).symm, (if_neg (by omega)).symm, e.symm⟩
theorem bel_71 {N o f dO dI : Int} (h : (within N 1 40 && within o 0 N && within f 0 o) = true) (h2 : ¬ oddsOk dO dI = true) : 0 = belL N o f dO dI ∧ 0 = belH N o f dO dI ∧ 71 = belE N o f dO dI := by
  have e : belE N o f dO dI = 71 := by unfold belE; rw [if_pos h, if_neg h2]
  exact ⟨(if_neg (by omega)).symm, (if_neg (by omega)).symm, e.symm⟩
theorem bel_4 {N o f : Nat} {dO dI : Int} (h : (within N 1 40 && within o 0 N && within f 0 o) = true) (h2 : oddsOk dO dI = true) (h3 : ∀ i, i < N + 1 → okB N o f dO dI i = false) : 0 = belL N o f dO dI ∧ 0 = belH N o f dO dI ∧ 4 = belE N o f dO dI := by
  have e : belE N o f dO dI = 4 := by
    unfold belE
    rw [if_pos h, if_pos h2]
    refine if_neg ?_
    simp only [Int.toNat_natCast]
    rw [fst_none h3]; exact Nat.lt_irrefl _
  exact ⟨(if_neg (by omega)).symm, (if_neg (by omega)).symm, e.symm⟩
theorem bel_0 {N o f : Nat} {dO dI : Int} (h : (within N 1 40 && within o 0 N && within f 0 o) = true) (h2 : oddsOk dO dI = true) (h3 : fst (okB N o f dO dI) (N + 1) < N + 1) : (fst (okB N o f dO dI) (N + 1) : Int) = belL N o f dO dI ∧ (lst (okB N o f dO dI) (N + 1) : Int) = belH N o f dO dI ∧ 0 = belE N o f dO dI := by
  have e : belE N o f dO dI = 0 := by
    unfold belE
    rw [if_pos h, if_pos h2]
    refine if_pos ?_
    simp only [Int.toNat_natCast]
    exact h3
  unfold belL belH
  rw [e, if_pos rfl, if_pos rfl]
  exact ⟨rfl, rfl, rfl⟩
end Bm
namespace Bm
theorem fst_no {p : Nat → Bool} {j : Nat} (h : p j = false) : (fst p (j + 1) < j + 1 ↔ fst p j < j) ∧ (fst p j < j → fst p (j + 1) = fst p j) ∧ lst p (j + 1) = lst p j := by
  have e : fst p (j + 1) = if fst p j < j then fst p j else j + 1 := by show (if fst p j < j then fst p j else if p j then j else j + 1) = _; rw [h]; rfl
  have e2 : lst p (j + 1) = lst p j := by show (if p j then j else lst p j) = _; rw [h]; rfl
  rw [e, e2]
  by_cases c : fst p j < j
  · rw [if_pos c]; exact ⟨⟨fun _ => c, fun _ => by omega⟩, fun _ => rfl, rfl⟩
  · rw [if_neg c]; exact ⟨⟨fun h => absurd h (Nat.lt_irrefl _), fun h => absurd h c⟩, fun h => absurd h c, rfl⟩
theorem fst_yes {p : Nat → Bool} {j : Nat} (h : p j = true) : fst p (j + 1) < j + 1 ∧ (fst p j < j → fst p (j + 1) = fst p j) ∧ (¬ fst p j < j → fst p (j + 1) = j) ∧ lst p (j + 1) = j := by
  have e : fst p (j + 1) = if fst p j < j then fst p j else j := by show (if fst p j < j then fst p j else if p j then j else j + 1) = _; rw [h]; rfl
  have e2 : lst p (j + 1) = j := by show (if p j then j else lst p j) = _; rw [h]; rfl
  rw [e, e2]
  by_cases c : fst p j < j
  · rw [if_pos c]; exact ⟨by omega, fun _ => rfl, fun h => absurd c h, rfl⟩
  · rw [if_neg c]; exact ⟨by omega, fun h => absurd h c, fun _ => rfl, rfl⟩
theorem okB_few {N o f : Nat} {dO dI : Int} {b : Nat} (h : ¬ few N o f dO dI b) : okB N o f dO dI b = false := by
  cases e : okB N o f dO dI b with
  | false => rfl
  | true => exact absurd (okB_iff.1 e).1 h
theorem okB_many {N o f : Nat} {dO dI : Int} {b : Nat} (h : ¬ many N o f dO dI b) : okB N o f dO dI b = false := by
  cases e : okB N o f dO dI b with
  | false => rfl
  | true => exact absurd (okB_iff.1 e).2 h
theorem odd_bd {o i : Int} (h : oddsOk o i = true) : 1 ≤ i ∧ i ≤ 1000 ∧ 0 ≤ o ∧ o ≤ i := by
  simp only [oddsOk, Bool.and_eq_true, within_iff] at h
  omega
end Bm
namespace Bm
theorem span_eq {lo hi : Int} : (within lo 0 1000 && within hi lo 1000) = (decide (0 ≤ lo) && decide (lo ≤ hi) && decide (hi ≤ 1000)) := by
  apply Bool.eq_iff_iff.2
  simp only [within, Bool.and_eq_true, decide_eq_true_eq]
  omega
theorem clamp_eq {x lo hi : Int} (h : lo ≤ hi) : decide (min (max x lo) hi = x) = within x lo hi := by
  apply Bool.eq_iff_iff.2
  simp only [within, Bool.and_eq_true, decide_eq_true_eq]
  omega
theorem mark_span {m : Nat → Int} (h : markOk m = true) {q : Nat} (hq : q < 4) : m (q * 2) ≤ m (q * 2 + 1) := by
  have := allB_iff.1 h q hq
  simp only [spanOk, Bool.and_eq_true, decide_eq_true_eq] at this
  exact this.1.2
theorem grade_70 {n : Nat} {m : Nat → Nat → Int} {b : Nat → Int} (h : ¬ marksOk n m = true) : 0 = gradeN n m b ∧ 70 = gradeE n m b := by
  have e : gradeE n m b = 70 := if_neg h
  exact ⟨(if_neg (by omega)).symm, e.symm⟩
theorem grade_73 {n : Nat} {m : Nat → Nat → Int} {b : Nat → Int} (h : marksOk n m = true) (h2 : ¬ barOk b = true) : 0 = gradeN n m b ∧ 73 = gradeE n m b := by
  have e : gradeE n m b = 73 := by unfold gradeE; rw [if_pos h, if_neg h2]
  exact ⟨(if_neg (by omega)).symm, e.symm⟩
theorem grade_4 {n : Nat} {m : Nat → Nat → Int} {b : Nat → Int} (h : marksOk n m = true) (h2 : barOk b = true) (h3 : ∀ k, k < n → reach (m k) b = false) : 0 = gradeN n m b ∧ 4 = gradeE n m b := by
  have e0 : gradeI n m b = n := fst_none (p := fun i => reach (m i) b) h3
  have e : gradeE n m b = 4 := by unfold gradeE; rw [if_pos h, if_pos h2, e0, if_neg (Nat.lt_irrefl n)]
  exact ⟨(if_neg (by omega)).symm, e.symm⟩
theorem grade_0 {n : Nat} {m : Nat → Nat → Int} {b : Nat → Int} (h : marksOk n m = true) (h2 : barOk b = true) {i : Nat} (hi : i < n) (h3 : ∀ k, k < i → reach (m k) b = false) (h4 : reach (m i) b = true) : (i : Int) = gradeN n m b ∧ 0 = gradeE n m b := by
  have e0 : gradeI n m b = i := fst_of (p := fun i => reach (m i) b) hi h4 h3
  have e : gradeE n m b = 0 := by unfold gradeE; rw [if_pos h, if_pos h2, e0, if_pos hi]
  exact ⟨by unfold gradeN; rw [if_pos e, e0], e.symm⟩
end Bm
