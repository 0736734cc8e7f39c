/- Plain mathematics: the debt that breaks first; what a chain is. -/
import Derived.Test.YthofpbnbjkdpaaaDoorCxJ
import Derived.Test.YthofpbnbjkdpaaaDoorCxMath3
set_option linter.unusedSimpArgs false
set_option linter.unusedVariables false
namespace Cm
section
variable {b : Book} {s : Nat}

theorem worst_spec : ∀ {k : Nat}, (worst b s k < 0 → ∀ i, i < k → ¬ 0 < rnd b s i) ∧ (0 ≤ worst b s k → 0 < rnd b s (worst b s k).toNat ∧ ∀ i, i < k → 0 < rnd b s i → rnd b s (worst b s k).toNat ≤ rnd b s i ∧ (rnd b s i = rnd b s (worst b s k).toNat → worst b s k ≤ i))
  | 0 => ⟨fun _ i hi => by omega, fun h => by simp [worst] at h⟩
  | k + 1 => by
    obtain ⟨h1, h2⟩ := worst_spec (k := k)
    have hb := worst_bd (b := b) (s := s) (k := k)
    have hw : worst b s (k + 1) = if 0 < rnd b s k ∧ (worst b s k < 0 ∨ rnd b s k < rnd b s (worst b s k).toNat) then (k : Int) else worst b s k := rfl
    by_cases c : 0 < rnd b s k ∧ (worst b s k < 0 ∨ rnd b s k < rnd b s (worst b s k).toNat)
    · rw [if_pos c] at hw
      rw [hw, Int.toNat_natCast]
      refine ⟨fun h => by omega, fun _ => ⟨c.1, fun i hi h => ?_⟩⟩
      by_cases e : i = k
      · subst e; exact ⟨Int.le_refl _, fun _ => Int.le_refl _⟩
      · by_cases h0 : worst b s k < 0
        · exact absurd h (h1 h0 i (by omega))
        · have h3 := (h2 (by omega)).2 i (by omega) h
          rcases c.2 with h4 | h4
          · omega
          · exact ⟨by omega, fun h5 => by omega⟩
    · rw [if_neg c] at hw
      rw [hw]
      refine ⟨fun h i hi => ?_, fun h => ⟨(h2 h).1, fun i hi h3 => ?_⟩⟩
      · by_cases e : i = k
        · subst e; omega
        · exact h1 h i (by omega)
      · by_cases e : i = k
        · subst e
          have := hb
          exact ⟨by omega, fun _ => by omega⟩
        · exact (h2 h).2 i (by omega) h3

/-- What is told of the first break. -/
theorem br_spec (hc : chk b = true) : (brE b = 0 ∧ ∃ S D : Nat, brS b = S ∧ S < b.ns ∧ brD b = D ∧ D < b.nd ∧ worst b S b.nd = D ∧ ∀ s, s < S → worst b s b.nd < 0) ∨
    (brE b = 4 ∧ brS b = 0 ∧ brD b = 0 ∧ ∀ s, s < b.ns → worst b s b.nd < 0) := by
  have herr := err_zero.2 hc
  by_cases h : ∀ s, s < b.ns → worst b s b.nd < 0
  · obtain ⟨h1, h2, h3⟩ := br_none herr h
    exact .inr ⟨h3, h1, h2, h⟩
  · have h' : ∃ s, s < b.ns ∧ 0 ≤ worst b s b.nd := by
      apply Classical.byContradiction
      intro hn
      exact h fun s hs => by
        apply Classical.byContradiction
        intro h2
        exact hn ⟨s, hs, by omega⟩
    obtain ⟨j, hj, h0⟩ := h'
    obtain ⟨a1, a2, a3, a4⟩ := srch_ok (q := fun s => decide (0 ≤ worst b s b.nd)) (n := b.ns) (k := 0) (j := j) (Nat.zero_le _) (by omega) (decide_eq_true h0)
    have a1 := of_decide_eq_true a1
    have hbef : ∀ s, s < firstS b → worst b s b.nd < 0 := fun s hs => by
      have := of_decide_eq_false (a4 s (Nat.zero_le _) hs)
      omega
    have hS : firstS b < b.ns := by
      have : firstS b ≤ j := a3
      omega
    obtain ⟨h1, h2, h3⟩ := br_at herr hS hbef a1
    have hb := worst_bd (b := b) (s := firstS b) (k := b.nd)
    refine .inl ⟨h3, firstS b, (worst b (firstS b) b.nd).toNat, h1, hS, ?_, ?_, ?_, hbef⟩
    · rw [h2]
      have a1' : 0 ≤ worst b (firstS b) b.nd := a1
      omega
    · have a1' : 0 ≤ worst b (firstS b) b.nd := a1
      omega
    · have a1' : 0 ≤ worst b (firstS b) b.nd := a1
      omega

/-! ### Chains -/

/-- What each place of a chain has. -/
def ChOk (b : Book) (r : Nat → Int) (l : List Nat) : Prop :=
  (∀ i, i < l.length → l.getD i 0 < b.nd ∧ 0 < r (l.getD i 0)) ∧ ∀ i, 0 < i → i < l.length → b.to (l.getD (i - 1) 0) = b.frm (l.getD i 0) ∧ r (l.getD (i - 1) 0) < r (l.getD i 0)

theorem getD_append_lt {l m : List Nat} {i : Nat} (h : i < l.length) : (l ++ m).getD i 0 = l.getD i 0 := by
  simp [List.getD_eq_getElem?_getD, List.getElem?_append_left h]
theorem getD_append_end {l : List Nat} {k : Nat} : (l ++ [k]).getD l.length 0 = k := by simp

theorem chn_ne {r : Nat → Int} : ∀ {n k : Nat}, ∃ l, chn b r n k = l ++ [k]
  | 0, k => ⟨[], rfl⟩
  | n + 1, k => by
    rw [chn]
    split
    · exact ⟨_, rfl⟩
    · exact ⟨[], rfl⟩

theorem chn_ok {r : Nat → Int} : ∀ {n k : Nat}, k < b.nd → 0 < r k → ChOk b r (chn b r n k)
  | 0, k, hk, h0 => ⟨fun i hi => by
      have : i = 0 := by simpa [chn] using hi
      subst this; exact ⟨by simpa [chn] using hk, by simpa [chn] using h0⟩, fun i h1 h2 => by
      have : i = 0 := by simpa [chn] using h2
      omega⟩
  | n + 1, k, hk, h0 => by
    rw [chn]
    split
    · rename_i hf
      obtain ⟨f1, f2, f3⟩ := bef_iff.1 (firstB_ok hf)
      obtain ⟨g1, g2⟩ := chn_ok (n := n) (k := firstB b r k) hf f1
      obtain ⟨l, hl⟩ := chn_ne (b := b) (r := r) (n := n) (k := firstB b r k)
      refine ⟨fun i hi => ?_, fun i h1 hi => ?_⟩
      · rw [List.length_append, List.length_singleton] at hi
        by_cases e : i < (chn b r n (firstB b r k)).length
        · rw [getD_append_lt e]; exact g1 i e
        · obtain rfl : i = (chn b r n (firstB b r k)).length := (by omega)
          rw [getD_append_end]; exact ⟨hk, h0⟩
      · rw [List.length_append, List.length_singleton] at hi
        by_cases e : i < (chn b r n (firstB b r k)).length
        · rw [getD_append_lt e, getD_append_lt (by omega)]; exact g2 i h1 e
        · obtain rfl : i = (chn b r n (firstB b r k)).length := (by omega)
          rw [getD_append_end, getD_append_lt (by omega)]
          have : (chn b r n (firstB b r k)).getD ((chn b r n (firstB b r k)).length - 1) 0 = firstB b r k := by
            rw [hl]; simp
          rw [this]; exact ⟨f3, f2⟩
    · refine ⟨fun i hi => ?_, fun i h1 h2 => ?_⟩
      · have : i = 0 := by simpa using hi
        subst this; exact ⟨by simpa using hk, by simpa using h0⟩
      · have : i = 0 := by simpa using h2
        omega

theorem chain_last {r : Nat → Int} {k : Nat} : 0 < (chain b r k).length ∧ (chain b r k).getD ((chain b r k).length - 1) 0 = k := by
  obtain ⟨l, hl⟩ := chn_ne (b := b) (r := r) (n := (r k).toNat) (k := k)
  have hl : chain b r k = l ++ [k] := hl
  rw [hl]; simp

/-- The first one has nothing before it. -/
theorem chn_head {r : Nat → Int} : ∀ {n k : Nat}, r k ≤ n → ¬ firstB b r ((chn b r n k).getD 0 0) < b.nd
  | 0, k, h => by
    intro hf
    have : (chn b r 0 k).getD 0 0 = k := by simp [chn]
    rw [this] at hf
    have := bef_iff.1 (firstB_ok hf); omega
  | n + 1, k, h => by
    rw [chn]
    split
    · rename_i hf
      have f := bef_iff.1 (firstB_ok hf)
      obtain ⟨l, hl⟩ := chn_ne (b := b) (r := r) (n := n) (k := firstB b r k)
      have h0 : 0 < (chn b r n (firstB b r k)).length := by rw [hl]; simp
      rw [getD_append_lt h0]
      exact chn_head (by omega)
    · rename_i hf
      simpa using hf

/-- A chain is no longer than there are debts. -/
def cntB (b : Book) (r : Nat → Int) (m : Int) : Int := sumN b.nd (fun i => if 0 < r i ∧ r i ≤ m then 1 else 0)
theorem chn_cnt {r : Nat → Int} : ∀ {n k : Nat}, k < b.nd → 0 < r k → ((chn b r n k).length : Int) ≤ cntB b r (r k)
  | 0, k, hk, h0 => by
    have h1 : sumN b.nd (fun i => if i = k then 1 else 0) ≤ cntB b r (r k) := sumN_le fun i _ => by
      by_cases e : i = k
      · subst e; rw [if_pos rfl, if_pos ⟨h0, Int.le_refl _⟩]; exact Int.le_refl _
      · rw [if_neg e]; split <;> omega
    rw [sumN_one hk] at h1
    simpa [chn] using h1
  | n + 1, k, hk, h0 => by
    rw [chn]
    split
    · rename_i hf
      obtain ⟨f1, f2, f3⟩ := bef_iff.1 (firstB_ok hf)
      have ih := chn_cnt (n := n) hf f1
      have h1 : sumN b.nd (fun i => (if 0 < r i ∧ r i ≤ r (firstB b r k) then 1 else 0) + if i = k then 1 else 0) ≤ cntB b r (r k) := sumN_le fun i _ => by
        by_cases e : i = k
        · subst e
          have e1 : ¬ (0 < r i ∧ r i ≤ r (firstB b r i)) := by omega
          rw [if_neg e1, if_pos rfl, if_pos ⟨h0, Int.le_refl _⟩]; omega
        · rw [if_neg e]
          by_cases c : 0 < r i ∧ r i ≤ r (firstB b r k)
          · rw [if_pos c, if_pos ⟨c.1, by omega⟩]; omega
          · rw [if_neg c]; split <;> omega
      rw [sumN_add, sumN_one hk] at h1
      rw [List.length_append, List.length_singleton]
      have h2 : cntB b r (r (firstB b r k)) = sumN b.nd (fun i => if 0 < r i ∧ r i ≤ r (firstB b r k) then 1 else 0) := rfl
      omega
    · have h1 : sumN b.nd (fun i => if i = k then 1 else 0) ≤ cntB b r (r k) := sumN_le fun i _ => by
        by_cases e : i = k
        · subst e; rw [if_pos rfl, if_pos ⟨h0, Int.le_refl _⟩]; exact Int.le_refl _
        · rw [if_neg e]; split <;> omega
      rw [sumN_one hk] at h1
      simpa using h1
theorem chain_le {r : Nat → Int} {k : Nat} (hk : k < b.nd) (h0 : 0 < r k) : (chain b r k).length ≤ b.nd := by
  have h1 := chn_cnt (n := (r k).toNat) hk h0
  have h2 : cntB b r (r k) ≤ b.nd * 1 := sumN_bound fun i _ => by split <;> omega
  unfold chain; omega

/-- Who breaks, and nobody who owes them broke before, breaks in the round 1. -/
theorem head_one (g : Good b) {h : Nat} (hh : h < b.nd) (h0 : 0 < rnd b s h) (hf : ¬ firstB b (rnd b s) h < b.nd) : rnd b s h = 1 ∧ pay b s b.due h < b.due h := by
  obtain ⟨k1, k2⟩ := rnd_at g hh h0
  have hno : ∀ j, j < b.nd → b.to j = b.frm h → 0 < rnd b s j → rnd b s h ≤ rnd b s j := fun j hj ht hr => by
    apply Classical.byContradiction
    intro hn
    have hb : bef b (rnd b s) h j = true := bef_iff.2 ⟨hr, by omega, ht⟩
    obtain ⟨a1, a2, a3, a4⟩ := srch_ok (q := bef b (rnd b s) h) (n := b.nd) (k := 0) (j := j) (Nat.zero_le _) (by omega) hb
    exact hf (by unfold firstB; omega)
  have hone : rnd b s h = 1 := by
    apply Classical.byContradiction
    intro hn
    obtain ⟨m, hm⟩ : ∃ m : Nat, rnd b s h = (m + 2 : Nat) := ⟨(rnd b s h).toNat - 2, by omega⟩
    have e1 : (rnd b s h).toNat = m + 1 + 1 := by omega
    rw [e1] at k1
    have e2 := k2 1 (by omega)
    have hg : gets b (it b s (m + 1)) (b.frm h) b.nd = gets b b.due (b.frm h) b.nd := sumN_congr fun i hi => by
      by_cases c : b.to i = b.frm h
      · rw [if_pos c, if_pos c]
        apply Classical.byContradiction
        intro hne
        have hl := it_le (s := s) g (m + 1) i hi
        have := rnd_of (s := s) g (r := m + 1) hi (by omega)
        have := hno i hi c this.1
        omega
      · rw [if_neg c, if_neg c]
    have e3 : it b s (m + 1 + 1) h = it b s 1 h := by
      show pay b s (it b s (m + 1)) h = pay b s b.due h
      simp only [pay, left, hg]
    omega
  refine ⟨hone, ?_⟩
  have e1 : (rnd b s h).toNat = 1 := by omega
  rw [e1] at k1
  exact k1
end
end Cm
