/- Texts for the law of the last part, part 12. -/
import Derived.Test.YtpigkgoooekcgaaTopPackedP11
set_option linter.unusedSimpArgs false
set_option linter.unusedVariables false
namespace Bm
def lst (p : Nat → Bool) : Nat → Nat
 | 0 => 0
 | j + 1 => if p j then j else lst p j
def mxN (a : Int) (f : Nat → Int) : Nat → Int
 | 0 => a
 | k + 1 => max (mxN a f k) (f k)
structure BInv (p : Nat → Bool) (j c : Nat) (f : Nat → Int) : Prop where
 none : c = 0 → ∀ i, i < j → p i = false
 some : 0 < c → fst p j < j ∧ f 0 = fst p j ∧ f (c - 1) = lst p j ∧ ∀ i, i < c → f i ≤ lst p j
 le : c ≤ j
theorem BInv.no {p : Nat → Bool} {j c : Nat} {f : Nat → Int} (h : BInv p j c f) (hp : p j = false) : BInv p (j + 1) c f := by
 refine ⟨fun h0 i hi => ?_, fun h0 => ?_, by have := h.le; omega⟩
 · by_cases e : i = j
   · subst e; exact hp
   · exact h.none h0 i (by omega)
 · obtain ⟨h1, h2, h3, h4⟩ := h.some h0
   have e1 : fst p (j + 1) = fst p j := by show (if fst p j < j then fst p j else _) = _; rw [if_pos h1]
   have e2 : lst p (j + 1) = lst p j := by show (if p j then j else lst p j) = _; rw [hp]; rfl
   rw [e1, e2]
   exact ⟨by omega, h2, h3, h4⟩
theorem mxN_le {a : Int} {f : Nat → Int} {M : Int} (ha : a ≤ M) : ∀ {k : Nat}, (∀ i, i < k → f i ≤ M) → mxN a f k ≤ M
 | 0, _ => ha
 | k + 1, h => by
   have h1 := mxN_le ha (f := f) (k := k) (fun i hi => h i (by omega))
   have h2 := h k (by omega)
   unfold mxN
   omega
theorem mxN_ge {a : Int} {f : Nat → Int} : ∀ {k i : Nat}, i < k → f i ≤ mxN a f k
 | 0, i, h => absurd h (Nat.not_lt_zero i)
 | k + 1, i, h => by
   unfold mxN
   by_cases e : i = k
   · subst e; omega
   · have := mxN_ge (a := a) (f := f) (k := k) (i := i) (by omega); omega
theorem BInv.max {p : Nat → Bool} {j c : Nat} {f : Nat → Int} (h : BInv p j c f) (hc : 0 < c) : mxN (f 0) f c = lst p j := by
 obtain ⟨h1, h2, h3, h4⟩ := h.some hc
 have a := mxN_le (a := f 0) (f := f) (M := lst p j) (h4 0 hc) (k := c) h4
 have b := mxN_ge (a := f 0) (f := f) (k := c) (i := c - 1) (by omega)
 omega
end Bm
namespace Bm
end Bm
namespace Bm
theorem clamp_eq {x lo hi : Int} (h : lo ≤ hi) : decide (min (max x lo) hi = x) = within x lo hi := by
 apply Bool.eq_iff_iff.2
 simp only [within, Bool.and_eq_true, decide_eq_true_eq]
 omega
theorem mark_span {m : Nat → Int} (h : markOk m = true) {q : Nat} (hq : q < 4) : m (q * 2) ≤ m (q * 2 + 1) := by
 have := allB_iff.1 h q hq
 simp only [spanOk, Bool.and_eq_true, decide_eq_true_eq] at this
 exact this.1.2
theorem grade_70 {n : Nat} {m : Nat → Nat → Int} {b : Nat → Int} (h : ¬ marksOk n m = true) : 0 = gradeN n m b ∧ 70 = gradeE n m b := by
 have e : gradeE n m b = 70 := if_neg h
 exact ⟨(if_neg (by omega)).symm, e.symm⟩
theorem grade_73 {n : Nat} {m : Nat → Nat → Int} {b : Nat → Int} (h : marksOk n m = true) (h2 : ¬ barOk b = true) : 0 = gradeN n m b ∧ 73 = gradeE n m b := by
 have e : gradeE n m b = 73 := by unfold gradeE; rw [if_pos h, if_neg h2]
 exact ⟨(if_neg (by omega)).symm, e.symm⟩
theorem grade_4 {n : Nat} {m : Nat → Nat → Int} {b : Nat → Int} (h : marksOk n m = true) (h2 : barOk b = true) (h3 : ∀ k, k < n → reach (m k) b = false) : 0 = gradeN n m b ∧ 4 = gradeE n m b := by
 have e0 : gradeI n m b = n := fst_none (p := fun i => reach (m i) b) h3
 have e : gradeE n m b = 4 := by unfold gradeE; rw [if_pos h, if_pos h2, e0, if_neg (Nat.lt_irrefl n)]
 exact ⟨(if_neg (by omega)).symm, e.symm⟩
theorem grade_0 {n : Nat} {m : Nat → Nat → Int} {b : Nat → Int} (h : marksOk n m = true) (h2 : barOk b = true) {i : Nat} (hi : i < n) (h3 : ∀ k, k < i → reach (m k) b = false) (h4 : reach (m i) b = true) : (i : Int) = gradeN n m b ∧ 0 = gradeE n m b := by
 have e0 : gradeI n m b = i := fst_of (p := fun i => reach (m i) b) hi h4 h3
 have e : gradeE n m b = 0 := by unfold gradeE; rw [if_pos h, if_pos h2, e0, if_pos hi]
 exact ⟨by unfold gradeN; rw [if_pos e, e0], e.symm⟩
end Bm
namespace Bm
open Go Go.Sx
def alw (N o : Nat) (r : Nat → Int) : Nat → Int
 | 0 => -1
 | j + 1 => if keeps N o j r then j else alw N o r j
def cnt (m : Nat → Int) (op : Nat → Nat → Int) : Nat → Nat
 | 0 => 0
 | k + 1 => cnt m op k + if reach m (op k) then 0 else 1
theorem cnt_le {m : Nat → Int} {op : Nat → Nat → Int} : ∀ k, cnt m op k ≤ k
 | 0 => Nat.le_refl 0
 | k + 1 => by have := cnt_le (m := m) (op := op) k; unfold cnt; split <;> omega
structure PrIn where
 n : Nat
 m : Nat → Nat → Int
 N : Int
 r : Nat → Int
 no : Nat
 op : Nat → Nat → Int
def prAl (x : PrIn) : Int := alw x.N.toNat x.no x.r (x.no + 1)
def prOk (x : PrIn) : Bool := decide ((x.no : Int) ≤ x.N) && allB x.no (fun k => barOk (x.op k))
def prI (x : PrIn) : Nat := fst (fun i => decide ((cnt (x.m i) x.op x.no : Int) ≤ prAl x)) x.n
def prE (x : PrIn) : Int := if marksOk x.n x.m then (if ruledE x.N x.r = 0 then (if prOk x then (if prI x < x.n then 0 else 4) else 73) else ruledE x.N x.r) else 70
def prW (x : PrIn) : Int := if prE x = 0 then (prI x : Nat) else 0
def prA (x : PrIn) : Int := if prE x = 0 then prAl x else 0
theorem pr_70 {x : PrIn} (h : ¬ marksOk x.n x.m = true) : 0 = prW x ∧ 0 = prA x ∧ 70 = prE x := by
 have e : prE x = 70 := if_neg h
 exact ⟨(if_neg (by omega)).symm, (if_neg (by omega)).symm, e.symm⟩
theorem pr_7 {x : PrIn} (h : marksOk x.n x.m = true) (h2 : ¬ within x.N 1 40 = true) : 0 = prW x ∧ 0 = prA x ∧ 7 = prE x := by
 have e0 := ruled_7 (r := x.r) h2
 have e : prE x = 7 := by unfold prE; rw [if_pos h, if_neg (by omega), e0]
 exact ⟨(if_neg (by omega)).symm, (if_neg (by omega)).symm, e.symm⟩
theorem pr_71 {x : PrIn} (h : marksOk x.n x.m = true) (h2 : within x.N 1 40 = true) (h3 : ¬ ruleOk x.N x.r = true) : 0 = prW x ∧ 0 = prA x ∧ 71 = prE x := by
 have e0 := ruled_71 (r := x.r) h2 h3
 have e : prE x = 71 := by unfold prE; rw [if_pos h, if_neg (by omega), e0]
 exact ⟨(if_neg (by omega)).symm, (if_neg (by omega)).symm, e.symm⟩
theorem pr_73 {x : PrIn} (h : marksOk x.n x.m = true) (h2 : within x.N 1 40 = true) (h3 : ruleOk x.N x.r = true) (h4 : ¬ prOk x = true) : 0 = prW x ∧ 0 = prA x ∧ 73 = prE x := by
 have e0 := ruled_0 (r := x.r) h2 h3
 have e : prE x = 73 := by unfold prE; rw [if_pos h, if_pos e0, if_neg h4]
 exact ⟨(if_neg (by omega)).symm, (if_neg (by omega)).symm, e.symm⟩
theorem pr_4 {x : PrIn} (h : marksOk x.n x.m = true) (h2 : within x.N 1 40 = true) (h3 : ruleOk x.N x.r = true) (h4 : prOk x = true) (h5 : ∀ i, i < x.n → ¬ (cnt (x.m i) x.op x.no : Int) ≤ prAl x) : 0 = prW x ∧ 0 = prA x ∧ 4 = prE x := by
 have e0 := ruled_0 (r := x.r) h2 h3
 have e1 : prI x = x.n := fst_none (p := fun i => decide ((cnt (x.m i) x.op x.no : Int) ≤ prAl x)) fun i hi => by simpa using h5 i hi
 have e : prE x = 4 := by unfold prE; rw [if_pos h, if_pos e0, if_pos h4, e1, if_neg (Nat.lt_irrefl _)]
 exact ⟨(if_neg (by omega)).symm, (if_neg (by omega)).symm, e.symm⟩
theorem pr_0 {x : PrIn} (h : marksOk x.n x.m = true) (h2 : within x.N 1 40 = true) (h3 : ruleOk x.N x.r = true) (h4 : prOk x = true) {i : Nat} (hi : i < x.n) (h5 : ∀ k, k < i → ¬ (cnt (x.m k) x.op x.no : Int) ≤ prAl x) (h6 : (cnt (x.m i) x.op x.no : Int) ≤ prAl x) : (i : Int) = prW x ∧ prAl x = prA x ∧ 0 = prE x := by
 have e0 := ruled_0 (r := x.r) h2 h3
 have e1 : prI x = i := fst_of (p := fun i => decide ((cnt (x.m i) x.op x.no : Int) ≤ prAl x)) hi (by simpa using h6) fun k hk => by simpa using h5 k hk
 have e : prE x = 0 := by unfold prE; rw [if_pos h, if_pos e0, if_pos h4, e1, if_pos hi]
 exact ⟨by unfold prW; rw [if_pos e, e1], by unfold prA; rw [if_pos e], e.symm⟩
end Bm
namespace Go.Proofs.Ytpigkgoooekcgaa
open Go Go.Sx Bm
set_option maxRecDepth 100000
theorem imax_max {a b : Int} : imax a b = max a b := by unfold imax; split <;> omega
theorem imin_min {a b : Int} : imin a b = min a b := by unfold imin; split <;> omega
def sMarks : Sig := ⟨Nat × (Nat → Nat → Int), fun x => [.c (marksCV x.1 x.2)], fun x => x.1 < 4611686018427387904, fun x => [.v (.c (.bool (marksOk x.1 x.2)))]⟩
def aMk1 (n : Nat) (m : Nat → Nat → Int) : Ann := { G := Nat, ok := fun _ i => i ≤ n, dom := fun _ => [], tm := fun _ i => [(3, .t (.c (.bool (within n 1 5 && allB i (fun k => markOk (m k)))))), (13, .t (intC i))], hp := fun _ _ => [], mu := fun _ i => n - i }
def aMk2 (n : Nat) (m : Nat → Nat → Int) : Ann := { G := Nat × Nat, ok := fun st g => isM (st.tm 13) g.1 ∧ g.2 ≤ 4, dom := fun _ => [], tm := fun _ g => [(3, .t (.c (.bool (within n 1 5 && allB g.1 (fun k => markOk (m k)) && allB g.2 (spanOk (m g.1)))))), (18, .t (intC g.2))], hp := fun _ _ => [], mu := fun _ g => 4 - g.2 }
theorem q31 (x : sMarks.α) (h : sMarks.pre x) : CallQ Try.prog E0 31 (sMarks.arg x) (sMarks.res x) := by
 obtain ⟨n, m⟩ := x
 refine bare_all E0_ok TD TD_ok V5 V5_ok runs [(31, 3, aMk1 n m), (31, 6, aMk2 n m)] [] [] [] (fuel := 5) ?_
 refine of_red (q := ∃ (x : Int × Int × Int), ((True∧(↑n : Int) = x.fst)∧(True∧(1 : Int) = x.snd.fst)∧(True∧(5 : Int) = x.snd.snd)∧True)∧True∧(∃ (g : Nat), g≤n∧True∧((True∧within x.fst x.snd.fst x.snd.snd = (within (↑n : Int) (1 : Int) (5 : Int) && allB g fun (k : Nat) => markOk (m k)))∧(True∧(0 : Int) = (↑g : Int))∧True)∧True)∧∀ (g : Nat), g≤n→(decide ((↑g : Int) < (↑n : Int)) = true→(0 : Int)≤(↑g : Int)∧(↑g : Int) < (↑n : Int)∧(∃ (g_1 : Nat × Nat), ((↑g : Int) = (↑g_1.fst : Int)∧g_1.snd≤(4 : Nat))∧True∧((True∧(within (↑n : Int) (1 : Int) (5 : Int) && allB g fun (k : Nat) => markOk (m k)) = ((within (↑n : Int) (1 : Int) (5 : Int) && allB g_1.fst fun (k : Nat) => markOk (m k)) && allB g_1.snd (spanOk (m g_1.fst))))∧(True∧(0 : Int) = (↑g_1.snd : Int))∧True)∧True)∧∀ (g_1 : Nat × Nat), (↑g : Int) = (↑g_1.fst : Int)∧g_1.snd≤(4 : Nat)→(decide ((↑g_1.snd : Int) < (4 : Int)) = true→(0 : Int)≤(↑g_1.snd : Int)∧(↑g_1.snd : Int) < (↑(4 : Nat) : Int)∧(((within (↑n : Int) (1 : Int) (5 : Int) && allB g_1.fst fun (k : Nat) => markOk (m k)) && allB g_1.snd (spanOk (m g_1.fst))) = true→(decide ((0 : Int)≤m g (g_1.snd * (2 : Nat) + (0 : Nat))) = true→(decide (m g (g_1.snd * (2 : Nat) + (0 : Nat))≤m g (g_1.snd * (2 : Nat) + ((0 : Nat) + (nat_lit 0 + (1 : Nat))))) = true→inRange IntKind.i64 ((↑g_1.snd : Int) + (1 : Int))∧∃ (g' : Nat × Nat), ((↑g : Int) = (↑g'.fst : Int)∧g'.snd≤(4 : Nat))∧(4 : Nat) - g'.snd < (4 : Nat) - g_1.snd∧True∧((True∧decide (m g (g_1.snd * (2 : Nat) + ((0 : Nat) + (nat_lit 0 + (1 : Nat))))≤(1000 : Int)) = ((within (↑n : Int) (1 : Int) (5 : Int) && allB g'.fst fun (k : Nat) => markOk (m k)) && allB g'.snd (spanOk (m g'.fst))))∧(True∧(↑g_1.snd : Int) + (1 : Int) = (↑g'.snd : Int))∧True)∧True)∧(decide (m g (g_1.snd * (2 : Nat) + (0 : Nat))≤m g (g_1.snd * (2 : Nat) + ((0 : Nat) + (nat_lit 0 + (1 : Nat))))) = false→inRange IntKind.i64 ((↑g_1.snd : Int) + (1 : Int))∧∃ (g' : Nat × Nat), ((↑g : Int) = (↑g'.fst : Int)∧g'.snd≤(4 : Nat))∧(4 : Nat) - g'.snd < (4 : Nat) - g_1.snd∧True∧((True∧((within (↑n : Int) (1 : Int) (5 : Int) && allB g'.fst fun (k : Nat) => markOk (m k)) && allB g'.snd (spanOk (m g'.fst))) = false)∧(True∧(↑g_1.snd : Int) + (1 : Int) = (↑g'.snd : Int))∧True)∧True))∧(decide ((0 : Int)≤m g (g_1.snd * (2 : Nat) + (0 : Nat))) = false→inRange IntKind.i64 ((↑g_1.snd : Int) + (1 : Int))∧∃ (g' : Nat × Nat), ((↑g : Int) = (↑g'.fst : Int)∧g'.snd≤(4 : Nat))∧(4 : Nat) - g'.snd < (4 : Nat) - g_1.snd∧True∧((True∧((within (↑n : Int) (1 : Int) (5 : Int) && allB g'.fst fun (k : Nat) => markOk (m k)) && allB g'.snd (spanOk (m g'.fst))) = false)∧(True∧(↑g_1.snd : Int) + (1 : Int) = (↑g'.snd : Int))∧True)∧True))∧(((within (↑n : Int) (1 : Int) (5 : Int) && allB g_1.fst fun (k : Nat) => markOk (m k)) && allB g_1.snd (spanOk (m g_1.fst))) = false→inRange IntKind.i64 ((↑g_1.snd : Int) + (1 : Int))∧∃ (g' : Nat × Nat), ((↑g : Int) = (↑g'.fst : Int)∧g'.snd≤(4 : Nat))∧(4 : Nat) - g'.snd < (4 : Nat) - g_1.snd∧True∧((True∧((within (↑n : Int) (1 : Int) (5 : Int) && allB g'.fst fun (k : Nat) => markOk (m k)) && allB g'.snd (spanOk (m g'.fst))) = false)∧(True∧(↑g_1.snd : Int) + (1 : Int) = (↑g'.snd : Int))∧True)∧True))∧(decide ((↑g_1.snd : Int) < (4 : Int)) = false→inRange IntKind.i64 ((↑g : Int) + (1 : Int))∧∃ (g' : Nat), g'≤n∧n - g' < n - g∧True∧((True∧((within (↑n : Int) (1 : Int) (5 : Int) && allB g_1.fst fun (k : Nat) => markOk (m k)) && allB g_1.snd (spanOk (m g_1.fst))) = (within (↑n : Int) (1 : Int) (5 : Int) && allB g' fun (k : Nat) => markOk (m k)))∧(True∧(↑g : Int) + (1 : Int) = (↑g' : Int))∧True)∧True))∧(decide ((↑g : Int) < (↑n : Int)) = false→True∧(within (↑n : Int) (1 : Int) (5 : Int) && allB g fun (k : Nat) => markOk (m k)) = marksOk n m)) (by kernel_rfl) ?_
 have h : n < 4611686018427387904 := h
 simp only [true_and, and_true, inR, Prod.exists, Prod.forall, and_assoc, exists_and_left, exists_eq_left', exists_eq_left, forall_eq, exists_const, forall_const, loopN, loopM, fa2, fas, fas2, dup1, dup2, dup3, dup4, ite_true, exhs, exhn, exhz, exho, exA, ex1, ex2, ex3, ex4, ex5, beqI, bneI, decide_true, Bool.true_and, decide_eq_true_eq, decide_eq_false_iff_not, ne_eq, Decidable.not_not]
 refine ⟨Nat.zero_le _, by simp [allB], fun i hi => ⟨by omega, by omega, by omega, by simp [allB], fun q hq => ⟨fun hlt => ⟨by omega, by omega, fun h1 => ⟨fun c1 => ⟨fun c2 => ⟨by omega, by omega, by omega, by omega, ?_⟩, fun c2 => ⟨by omega, by omega, by omega, by omega, ?_⟩⟩, fun c1 => ⟨by omega, by omega, by omega, by omega, ?_⟩⟩, fun h1 => ⟨by omega, by omega, by omega, by omega, ?_⟩⟩, fun hge => ⟨by omega, by omega, by omega, by omega, ?_⟩⟩⟩, rfl⟩
 · simp_all [allB, spanOk]
 · simp_all [allB, spanOk]; intros; omega
 · simp_all [allB, spanOk]; intros; omega
 · show ((within n 1 5 && allB i fun k => markOk (m k)) && (allB q (spanOk (m i)) && spanOk (m i) q)) = false
   rw [← Bool.and_assoc, h1, Bool.false_and]
 · obtain rfl : q = 4 := by omega
   exact Bool.and_assoc _ _ _
def sHold : Sig := ⟨(Int × Int) × Int, fun x => [twoTV x.1.1 x.1.2, intC x.2], fun _ => True, fun x => [.v (.c (.bool (within x.2 x.1.1 x.1.2)))]⟩
theorem q11 (x : sHold.α) : CallQ Try.prog E0 11 (sHold.arg x) (sHold.res x) := by
 obtain ⟨⟨a, b⟩, c⟩ := x
 refine bare_all E0_ok TD TD_ok V5 V5_ok runs [] [] [] [] (fuel := 5) ?_
 refine of_red (q := ∃ (x : Int × Int × Int), ((True∧c = x.fst)∧(True∧a = x.snd.fst)∧(True∧b = x.snd.snd)∧True)∧True∧True∧within x.fst x.snd.fst x.snd.snd = within c (a, b).fst (a, b).snd) (by kernel_rfl) ?_
 simp only [true_and, and_true, inR, Prod.exists, Prod.forall, and_assoc, exists_and_left, exists_eq_left', exists_eq_left, forall_eq, exists_const, forall_const, loopN, loopM, fa2, fas, fas2, dup1, dup2, dup3, dup4, ite_true, exhs, exhn, exhz, exho, exA, ex1, ex2, ex3, ex4, ex5, beqI, bneI, decide_true, Bool.true_and, decide_eq_true_eq, decide_eq_false_iff_not, ne_eq, Decidable.not_not]
def TG0 : List (Nat × Sig) := (11, sHold) :: (31, sMarks) :: TD
theorem TG0_ok : SigsOk Try.prog E0 TG0 := ((TD_ok.cons (runs 31 (by kernel_rfl)) q31).cons (runs 11 (by kernel_rfl)) fun x _ => q11 x)
def sBar : Sig := ⟨Nat → Int, fun b => [arrTV 4 b], fun _ => True, fun b => [.v (.c (.bool (barOk b)))]⟩
def aBa (b : Nat → Int) : Ann := { G := Nat, ok := fun _ q => q ≤ 4 ∧ allB q (fun q => within (b q) 0 1000) = true, dom := fun _ => [], tm := fun _ q => [(6, .t (intC q))], hp := fun _ _ => [], mu := fun _ q => 4 - q }
theorem q32 (b : sBar.α) : CallQ Try.prog E0 32 (sBar.arg b) (sBar.res b) := by
 refine bare_all E0_ok TG0 TG0_ok V5 V5_ok runs [(32, 2, aBa b)] [] [] [] (fuel := 5) ?_
 refine of_red (q := (∃ (g : Nat), (g≤(4 : Nat)∧(allB g fun (q : Nat) => within (b q) (0 : Int) (1000 : Int)) = true)∧True∧((True∧(0 : Int) = (↑g : Int))∧True)∧True)∧∀ (g : Nat), g≤(4 : Nat)∧(allB g fun (q : Nat) => within (b q) (0 : Int) (1000 : Int)) = true→(decide ((↑g : Int) < (4 : Int)) = true→(0 : Int)≤(↑g : Int)∧(↑g : Int) < (↑(4 : Nat) : Int)∧∃ (x : Int × Int × Int), ((True∧b (g * (1 : Nat) + (0 : Nat)) = x.fst)∧(True∧(0 : Int) = x.snd.fst)∧(True∧(1000 : Int) = x.snd.snd)∧True)∧True∧((!within x.fst x.snd.fst x.snd.snd) = true→True∧barOk b = false)∧((!within x.fst x.snd.fst x.snd.snd) = false→inRange IntKind.i64 ((↑g : Int) + (1 : Int))∧∃ (g' : Nat), (g'≤(4 : Nat)∧(allB g' fun (q : Nat) => within (b q) (0 : Int) (1000 : Int)) = true)∧(4 : Nat) - g' < (4 : Nat) - g∧True∧((True∧(↑g : Int) + (1 : Int) = (↑g' : Int))∧True)∧True))∧(decide ((↑g : Int) < (4 : Int)) = false→True∧barOk b = true)) (by kernel_rfl) ?_
 simp only [true_and, and_true, inR, Prod.exists, Prod.forall, and_assoc, exists_and_left, exists_eq_left', exists_eq_left, forall_eq, exists_const, forall_const, loopN, loopM, fa2, fas, fas2, dup1, dup2, dup3, dup4, ite_true, exhs, exhn, exhz, exho, exA, ex1, ex2, ex3, ex4, ex5, beqI, bneI, decide_true, Bool.true_and, decide_eq_true_eq, decide_eq_false_iff_not, ne_eq, Decidable.not_not]
 refine ⟨by omega, rfl, fun q ⟨hq, hall⟩ => ⟨fun hlt => ⟨by omega, by omega, fun h => ?_, fun h => ⟨by omega, by omega, by omega, ?_, by omega⟩⟩, fun hge => ?_⟩⟩
 · exact allB_not (i := q) (by omega) (by simpa using h)
 · have h : within (b q) 0 1000 = true := by simpa using h
   show ((allB q fun q => within (b q) 0 1000) && within (b q) 0 1000) = true
   rw [hall, h]; rfl
 · obtain rfl : q = 4 := by omega
   exact hall
theorem clamp_step {m b : Nat → Int} {q k : Nat} : (if k = q then imin (imax (b q) (m (q * 2))) (m (q * 2 + 1)) else if k < q then min (max (b k) (m (k * 2))) (m (k * 2 + 1)) else b k) = if k < q + 1 then min (max (b k) (m (k * 2))) (m (k * 2 + 1)) else b k := by
 by_cases e : k = q
 · subst e
   rw [if_pos rfl, if_pos (by omega), imin_min, imax_max]
 · rw [if_neg e]
   by_cases c : k < q
   · rw [if_pos c, if_pos (by omega)]
   · rw [if_neg c, if_neg (by omega)]
def sBelow : Sig := ⟨(Nat → Int) × (Nat → Int), fun x => [arrTV 8 x.1, arrTV 4 x.2], fun x => markOk x.1 = true, fun x => [.v (.c (.bool (!reach x.1 x.2)))]⟩
def clampI (m b : Nat → Int) (q : Nat) : Int := min (max (b q) (m (q * 2))) (m (q * 2 + 1))
def aBw (m b : Nat → Int) : Ann := { G := Nat, ok := fun _ q => q ≤ 4, dom := fun st => [osN (st.tm 5)], tm := fun _ q => [(10, .t (intC q))], hp := fun st q => [(osN (st.tm 5), .self, some (.box 4 (fun j => .int .i64 (if j < q then clampI m b j else b j))))], mu := fun _ q => 4 - q }
theorem q33 (x : sBelow.α) (h : sBelow.pre x) : CallQ Try.prog E0 33 (sBelow.arg x) (sBelow.res x) := by
 obtain ⟨m, b⟩ := x
 refine bare_all E0_ok TG0 TG0_ok V5 V5_ok runs [(33, 3, aBw m b)] [] [] [] (fuel := 5) ?_
 refine of_red (q := (∃ (g : Nat), g≤(4 : Nat)∧True∧((True∧(0 : Int) = (↑g : Int))∧True)∧(True∧(((True∧True∧b 0 = if nat_lit 0 < g then clampI m b 0 else b 0)∧True∧b 1 = if nat_lit 1 < g then clampI m b 1 else b 1)∧True∧b 2 = if nat_lit 2 < g then clampI m b 2 else b 2)∧True∧b 3 = if nat_lit 3 < g then clampI m b 3 else b 3)∧True)∧∀ (g : Nat), g≤(4 : Nat)→(decide ((↑g : Int) < (4 : Int)) = true→(0 : Int)≤(↑g : Int)∧(↑g : Int) < (↑(4 : Nat) : Int)∧(0 : Int)≤(↑g : Int)∧(↑g : Int) < (↑(4 : Nat) : Int)∧(0 : Int)≤(↑g : Int)∧(↑g : Int) < (↑(4 : Nat) : Int)∧inRange IntKind.i64 ((↑g : Int) + (1 : Int))∧∃ (g' : Nat), g'≤(4 : Nat)∧(4 : Nat) - g' < (4 : Nat) - g∧True∧((True∧(↑g : Int) + (1 : Int) = (↑g' : Int))∧True)∧(True∧(((True∧True∧(if nat_lit 0 = (0 : Nat) + g * (1 : Nat) + (0 : Nat) then imin (imax (if (0 : Nat) + g * (1 : Nat) + (0 : Nat) + (0 : Nat) < g then clampI m b ((0 : Nat) + g * (1 : Nat) + (0 : Nat) + (0 : Nat)) else b ((0 : Nat) + g * (1 : Nat) + (0 : Nat) + (0 : Nat))) (m (g * (2 : Nat) + (0 : Nat)))) (m (g * (2 : Nat) + ((0 : Nat) + (nat_lit 0 + (1 : Nat))))) else if nat_lit 0 < g then clampI m b 0 else b 0) = if nat_lit 0 < g' then clampI m b 0 else b 0)∧True∧(if nat_lit 1 = (0 : Nat) + g * (1 : Nat) + (0 : Nat) then imin (imax (if (0 : Nat) + g * (1 : Nat) + (0 : Nat) + (0 : Nat) < g then clampI m b ((0 : Nat) + g * (1 : Nat) + (0 : Nat) + (0 : Nat)) else b ((0 : Nat) + g * (1 : Nat) + (0 : Nat) + (0 : Nat))) (m (g * (2 : Nat) + (0 : Nat)))) (m (g * (2 : Nat) + ((0 : Nat) + (nat_lit 0 + (1 : Nat))))) else if nat_lit 1 < g then clampI m b 1 else b 1) = if nat_lit 1 < g' then clampI m b 1 else b 1)∧True∧(if nat_lit 2 = (0 : Nat) + g * (1 : Nat) + (0 : Nat) then imin (imax (if (0 : Nat) + g * (1 : Nat) + (0 : Nat) + (0 : Nat) < g then clampI m b ((0 : Nat) + g * (1 : Nat) + (0 : Nat) + (0 : Nat)) else b ((0 : Nat) + g * (1 : Nat) + (0 : Nat) + (0 : Nat))) (m (g * (2 : Nat) + (0 : Nat)))) (m (g * (2 : Nat) + ((0 : Nat) + (nat_lit 0 + (1 : Nat))))) else if nat_lit 2 < g then clampI m b 2 else b 2) = if nat_lit 2 < g' then clampI m b 2 else b 2)∧True∧(if nat_lit 3 = (0 : Nat) + g * (1 : Nat) + (0 : Nat) then imin (imax (if (0 : Nat) + g * (1 : Nat) + (0 : Nat) + (0 : Nat) < g then clampI m b ((0 : Nat) + g * (1 : Nat) + (0 : Nat) + (0 : Nat)) else b ((0 : Nat) + g * (1 : Nat) + (0 : Nat) + (0 : Nat))) (m (g * (2 : Nat) + (0 : Nat)))) (m (g * (2 : Nat) + ((0 : Nat) + (nat_lit 0 + (1 : Nat))))) else if nat_lit 3 < g then clampI m b 3 else b 3) = if nat_lit 3 < g' then clampI m b 3 else b 3)∧True)∧(decide ((↑g : Int) < (4 : Int)) = false→True∧(!((if nat_lit 0 < g then clampI m b 0 else b 0) == b 0 && ((if nat_lit 1 < g then clampI m b 1 else b 1) == b 1 && ((if nat_lit 2 < g then clampI m b 2 else b 2) == b 2 && ((if nat_lit 3 < g then clampI m b 3 else b 3) == b 3 && true))))) = !reach m b)) (by kernel_rfl) ?_
 have h : markOk m = true := h
 simp only [true_and, and_true, inR, Prod.exists, Prod.forall, and_assoc, exists_and_left, exists_eq_left', exists_eq_left, forall_eq, exists_const, forall_const, loopN, loopM, fa2, fas, fas2, dup1, dup2, dup3, dup4, ite_true, exhs, exhn, exhz, exho, exA, ex1, ex2, ex3, ex4, ex5, beqI, bneI, decide_true, Bool.true_and, decide_eq_true_eq, decide_eq_false_iff_not, ne_eq, Decidable.not_not]
 unfold clampI
 refine ⟨⟨0, by omega, rfl, by simp, by simp, by simp, by simp⟩, fun q hq => ⟨fun hlt => ?_, fun hge => ?_⟩⟩
 · simp only [Nat.zero_add, Nat.mul_one, Nat.add_zero, Nat.lt_irrefl, if_false]
   exact ⟨by omega, by omega, by omega, by omega, by omega, by omega, by omega, by omega, q + 1, by omega, by omega, by omega, clamp_step (k := 0), clamp_step (k := 1), clamp_step (k := 2), clamp_step (k := 3)⟩
 · obtain rfl : q = 4 := by omega
   have e : reach m b = (((true && within (b 0) (m 0) (m 1)) && within (b 1) (m 2) (m 3) && within (b 2) (m 4) (m 5)) && within (b 3) (m 6) (m 7)) := rfl
   rw [if_pos (by omega), if_pos (by omega), if_pos (by omega), if_pos (by omega)]
   have c0 := clamp_eq (x := b 0) (mark_span h (q := 0) (by omega))
   have c1 := clamp_eq (x := b 1) (mark_span h (q := 1) (by omega))
   have c2 := clamp_eq (x := b 2) (mark_span h (q := 2) (by omega))
   have c3 := clamp_eq (x := b 3) (mark_span h (q := 3) (by omega))
   rw [c0, c1, c2, c3, e]
   simp only [Nat.zero_mul, Nat.one_mul, Nat.zero_add, Nat.reduceMul, Nat.reduceAdd, Bool.and_true, Bool.true_and, Bool.and_assoc]
def TG1 : List (Nat × Sig) := (33, sBelow) :: (32, sBar) :: TG0
theorem TG1_ok : SigsOk Try.prog E0 TG1 := ((TG0_ok.cons (runs 32 (by kernel_rfl)) fun x _ => q32 x).cons (runs 33 (by kernel_rfl)) q33)
def sGrade : Sig := ⟨(Nat × (Nat → Nat → Int)) × (Nat → Int), fun x => [.c (marksCV x.1.1 x.1.2), arrTV 4 x.2], fun x => x.1.1 < 4611686018427387904, fun x => [.v (intC (gradeN x.1.1 x.1.2 x.2)), .v (intC (gradeE x.1.1 x.1.2 x.2))]⟩
def aGd (t n : Nat) (m : Nat → Nat → Int) (b : Nat → Int) : Ann := { G := Nat, ok := fun _ i => i ≤ n ∧ ∀ k, k < i → reach (m k) b = false, dom := fun _ => [], tm := fun _ i => [(t, .t (intC i))], hp := fun _ _ => [], mu := fun _ i => n - i }
theorem q13 (x : sGrade.α) (h : sGrade.pre x) : CallQ Try.prog E0 13 (sGrade.arg x) (sGrade.res x) := by
 obtain ⟨⟨n, m⟩, b⟩ := x
 refine bare_all E0_ok TG1 TG1_ok V5 V5_ok runs [(13, 7, aGd 19 n m b)] [] [] [] (fuel := 5) ?_
 refine of_red (q := ∃ (x : Nat × (Nat→Nat→Int)), ((True∧True∧n = x.fst∧∀ (i : Nat), i < n→(((((((True∧(n, m).snd i 0 = x.snd i 0)∧(n, m).snd i 1 = x.snd i 1)∧(n, m).snd i 2 = x.snd i 2)∧(n, m).snd i 3 = x.snd i 3)∧(n, m).snd i 4 = x.snd i 4)∧(n, m).snd i 5 = x.snd i 5)∧(n, m).snd i 6 = x.snd i 6)∧(n, m).snd i 7 = x.snd i 7)∧True)∧x.fst < (4611686018427387904 : Nat)∧((!marksOk x.fst x.snd) = true→(True∧(0 : Int) = gradeN (n, m).fst (n, m).snd b)∧(True∧(70 : Int) = gradeE (n, m).fst (n, m).snd b)∧True)∧((!marksOk x.fst x.snd) = false→∃ (x : Nat→Int), ((True∧(((True∧True∧b 0 = x 0)∧True∧b 1 = x 1)∧True∧b 2 = x 2)∧True∧b 3 = x 3)∧True)∧True∧((!barOk x) = true→(True∧(0 : Int) = gradeN (n, m).fst (n, m).snd b)∧(True∧(73 : Int) = gradeE (n, m).fst (n, m).snd b)∧True)∧((!barOk x) = false→(∃ (g : Nat), (g≤n∧∀ (k : Nat), k < g→reach (m k) b = false)∧True∧((True∧(0 : Int) = (↑g : Int))∧True)∧True)∧∀ (g : Nat), (g≤n∧∀ (k : Nat), k < g→reach (m k) b = false)→(decide ((↑g : Int) < (↑n : Int)) = true→(0 : Int)≤(↑g : Int)∧(↑g : Int) < (↑n : Int)∧∃ (x : (Nat→Int) × (Nat→Int)), ((True∧(((((((True∧True∧(n, m).snd g 0 = x.fst 0)∧True∧(n, m).snd g 1 = x.fst 1)∧True∧(n, m).snd g 2 = x.fst 2)∧True∧(n, m).snd g 3 = x.fst 3)∧True∧(n, m).snd g 4 = x.fst 4)∧True∧(n, m).snd g 5 = x.fst 5)∧True∧(n, m).snd g 6 = x.fst 6)∧True∧(n, m).snd g 7 = x.fst 7)∧(True∧(((True∧True∧b 0 = x.snd 0)∧True∧b 1 = x.snd 1)∧True∧b 2 = x.snd 2)∧True∧b 3 = x.snd 3)∧True)∧markOk x.fst = true∧((!!reach x.fst x.snd) = true→(True∧(↑g : Int) = gradeN (n, m).fst (n, m).snd b)∧(True∧(0 : Int) = gradeE (n, m).fst (n, m).snd b)∧True)∧((!!reach x.fst x.snd) = false→inRange IntKind.i64 ((↑g : Int) + (1 : Int))∧∃ (g' : Nat), (g'≤n∧∀ (k : Nat), k < g'→reach (m k) b = false)∧n - g' < n - g∧True∧((True∧(↑g : Int) + (1 : Int) = (↑g' : Int))∧True)∧True))∧(decide ((↑g : Int) < (↑n : Int)) = false→(True∧(0 : Int) = gradeN (n, m).fst (n, m).snd b)∧(True∧(4 : Int) = gradeE (n, m).fst (n, m).snd b)∧True)))) (by kernel_rfl) ?_
 have h : n < 4611686018427387904 := h
 simp only [true_and, and_true, inR, Prod.exists, Prod.forall, and_assoc, exists_and_left, exists_eq_left', exists_eq_left, forall_eq, exists_const, forall_const, loopN, loopM, fa2, fas, fas2, dup1, dup2, dup3, dup4, ite_true, exhs, exhn, exhz, exho, exA, ex1, ex2, ex3, ex4, ex5, beqI, bneI, decide_true, Bool.true_and, decide_eq_true_eq, decide_eq_false_iff_not, ne_eq, Decidable.not_not]
 refine ⟨m, fun _ _ => ⟨rfl, rfl, rfl, rfl, rfl, rfl, rfl, rfl⟩, h, fun h1 => grade_70 (by simpa using h1), fun h1 => ?_⟩
 have h1 : marksOk n m = true := by simpa using h1
 refine ⟨b, rfl, rfl, rfl, rfl, fun h2 => grade_73 h1 (by simpa using h2), fun h2 => ?_⟩
 have h2 : barOk b = true := by simpa using h2
 have mk : ∀ i, i < n → markOk (m i) = true := fun i hi => by
   have : (within n 1 5 && allB n fun k => markOk (m k)) = true := h1
   exact allB_iff.1 (Bool.and_eq_true_iff.1 this).2 i hi
 refine ⟨Nat.zero_le _, fun k hk => absurd hk (Nat.not_lt_zero k), fun i hi hpre => ⟨by omega, by omega, m i, rfl, rfl, rfl, rfl, rfl, rfl, rfl, rfl, b, rfl, rfl, rfl, rfl, mk i hi, fun h3 => grade_0 h1 h2 hi hpre (by simpa using h3), fun h3 => ⟨by omega, by omega, by omega, fun k hk => ?_, by omega⟩⟩, fun hall => grade_4 h1 h2 hall⟩
 by_cases e : k = i
 · subst e; simpa using h3
 · exact hpre k (by omega)
end Go.Proofs.Ytpigkgoooekcgaa
namespace Go.Proofs.Ytpigkgoooekcgaa
open Go Go.Sx Bm
set_option maxRecDepth 100000
def TP : List (Nat × Sig) := (13, sGrade) :: TG1
theorem TP_ok : SigsOk Try.prog E0 TP := (TG1_ok.cons (runs 13 (by kernel_rfl)) q13)
def sPro : Sig := ⟨PrIn, fun x => [.c (marksCV x.n x.m), intC x.N, arrTV 6 x.r, .c (barsCV x.no x.op)], fun x => x.n < 4611686018427387904 ∧ x.no < 4611686018427387904, fun x => [.v (intC (prW x)), .v (intC (prA x)), .v (intC (prE x))]⟩
def aP1 (t u : Nat) (x : PrIn) : Ann := { G := Nat, ok := fun _ i => i ≤ x.no, dom := fun _ => [], tm := fun _ i => [(t, .t (.c (.bool (decide ((x.no : Int) ≤ x.N) && allB i (fun k => barOk (x.op k)))))), (u, .t (intC i))], hp := fun _ _ => [], mu := fun _ i => x.no - i }
def vAl (x : PrIn) (j : Nat) : Int := if x.no < j then prAl x else -1
def aP2 (K : Nat) (x : PrIn) : Ann := { G := Nat, ok := fun _ j => j ≤ x.N.toNat + 1, dom := fun _ => [K], tm := fun _ j => [(8, .t (intC j))], hp := fun _ j => [(K, .self, some (.box 1 (fun _ => .int .i64 (vAl x j))))], mu := fun _ j => x.N.toNat + 1 - j }
def aP3 (K : Nat) (x : PrIn) : Ann := { G := Nat × Nat, ok := fun st g => isM (st.tm 3) g.1 ∧ g.2 ≤ g.1 + 1, dom := fun _ => [K], tm := fun _ g => [(13, .t (intC g.2))], hp := fun _ g => [(K, .self, some (.box 1 (fun _ => .int .i64 (if g.1 = x.no then alw x.N.toNat x.no x.r g.2 else vAl x g.1))))], mu := fun _ g => g.1 + 1 - g.2 }
def aP4 (t : Nat) (x : PrIn) : Ann := { G := Nat, ok := fun _ i => i ≤ x.n ∧ ∀ k, k < i → ¬ (cnt (x.m k) x.op x.no : Int) ≤ prAl x, dom := fun _ => [], tm := fun _ i => [(t, .t (intC i))], hp := fun _ _ => [], mu := fun _ i => x.n - i }
def aP5 (q t u : Nat) (x : PrIn) : Ann := { G := Nat × Nat, ok := fun st g => isM (st.tm q) g.1 ∧ g.2 ≤ x.no, dom := fun _ => [], tm := fun _ g => [(t, .t (intC (cnt (x.m g.1) x.op g.2))), (u, .t (intC g.2))], hp := fun _ _ => [], mu := fun _ g => x.no - g.2 }
set_option maxHeartbeats 1000000 in
theorem q15 (x : sPro.α) (h : sPro.pre x) : CallQ Try.prog E0 15 (sPro.arg x) (sPro.res x) := by
 obtain ⟨n, m, N, r, no, op⟩ := x
 refine bare_all E0_ok TP TP_ok V5 V5_ok runs [(15, 8, aP1 12 40 ⟨n, m, N, r, no, op⟩), (62, 1, aP2 12 ⟨n, m, N, r, no, op⟩), (62, 4, aP3 12 ⟨n, m, N, r, no, op⟩), (15, 20, aP4 70 ⟨n, m, N, r, no, op⟩), (15, 25, aP5 16 19 79 ⟨n, m, N, r, no, op⟩)] [] [] [(34, 4, mapN 6)] (fuel := 6) ?_
 refine of_red (q := ∃ (x : Nat × (Nat→Nat→Int)), ((True∧True∧n = x.fst∧∀ (i : Nat), i < n→(((((((True∧m i 0 = x.snd i 0)∧m i 1 = x.snd i 1)∧m i 2 = x.snd i 2)∧m i 3 = x.snd i 3)∧m i 4 = x.snd i 4)∧m i 5 = x.snd i 5)∧m i 6 = x.snd i 6)∧m i 7 = x.snd i 7)∧True)∧x.fst < (4611686018427387904 : Nat)∧((!marksOk x.fst x.snd) = true→(True∧(0 : Int) = prW { n := n, m := m, N := N, r := r, no := no, op := op })∧(True∧(0 : Int) = prA { n := n, m := m, N := N, r := r, no := no, op := op })∧(True∧(70 : Int) = prE { n := n, m := m, N := N, r := r, no := no, op := op })∧True)∧((!marksOk x.fst x.snd) = false→∃ (x : Int × Int × Int), ((True∧N = x.fst)∧(True∧(1 : Int) = x.snd.fst)∧(True∧(40 : Int) = x.snd.snd)∧True)∧True∧((!within x.fst x.snd.fst x.snd.snd) = true→(((7 : Int) != (0 : Int)) = true→(True∧(0 : Int) = prW { n := n, m := m, N := N, r := r, no := no, op := op })∧(True∧(0 : Int) = prA { n := n, m := m, N := N, r := r, no := no, op := op })∧(True∧(7 : Int) = prE { n := n, m := m, N := N, r := r, no := no, op := op })∧True)∧(((7 : Int) != (0 : Int)) = false→(∃ (g : Nat), g≤no∧True∧((True∧decide ((↑no : Int)≤N) = (decide ((↑no : Int)≤N) && allB g fun (k : Nat) => barOk (op k)))∧(True∧(0 : Int) = (↑g : Int))∧True)∧True)∧∀ (g : Nat), g≤no→(decide ((↑g : Int) < (↑no : Int)) = true→(0 : Int)≤(↑g : Int)∧(↑g : Int) < (↑no : Int)∧((decide ((↑no : Int)≤N) && allB g fun (k : Nat) => barOk (op k)) = true→∃ (x : Nat→Int), ((True∧(((True∧True∧op g 0 = x 0)∧True∧op g 1 = x 1)∧True∧op g 2 = x 2)∧True∧op g 3 = x 3)∧True)∧True∧inRange IntKind.i64 ((↑g : Int) + (1 : Int))∧∃ (g' : Nat), g'≤no∧no - g' < no - g∧True∧((True∧barOk x = (decide ((↑no : Int)≤N) && allB g' fun (k : Nat) => barOk (op k)))∧(True∧(↑g : Int) + (1 : Int) = (↑g' : Int))∧True)∧True)∧((decide ((↑no : Int)≤N) && allB g fun (k : Nat) => barOk (op k)) = false→inRange IntKind.i64 ((↑g : Int) + (1 : Int))∧∃ (g' : Nat), g'≤no∧no - g' < no - g∧True∧((True∧(decide ((↑no : Int)≤N) && allB g' fun (k : Nat) => barOk (op k)) = false)∧(True∧(↑g : Int) + (1 : Int) = (↑g' : Int))∧True)∧True))∧(decide ((↑g : Int) < (↑no : Int)) = false→((!(decide ((↑no : Int)≤N) && allB g fun (k : Nat) => barOk (op k))) = true→(True∧(0 : Int) = prW { n := n, m := m, N := N, r := r, no := no, op := op })∧(True∧(0 : Int) = prA { n := n, m := m, N := N, r := r, no := no, op := op })∧(True∧(73 : Int) = prE { n := n, m := m, N := N, r := r, no := no, op := op })∧True)∧((!(decide ((↑no : Int)≤N) && allB g fun (k : Nat) => barOk (op k))) = false→inRange IntKind.i64 ((0 : Int) + (1 : Int))∧(∃ (g : Nat), g≤N.toNat + (1 : Nat)∧True∧((True∧(0 : Int) = (↑g : Int))∧True)∧(True∧True∧True∧(-1 : Int) = vAl { n := n, m := m, N := N, r := r, no := no, op := op } g)∧True)∧∀ (g : Nat), g≤N.toNat + (1 : Nat)→(decide ((↑g : Int) < (0 : Int) + (1 : Int)) = true→inRange IntKind.i64 ((↑g : Int) + (1 : Int))∧(∃ (g_1 : Nat × Nat), ((↑g : Int) = (↑g_1.fst : Int)∧g_1.snd≤g_1.fst + (1 : Nat))∧True∧((True∧(0 : Int) = (↑g_1.snd : Int))∧True)∧(True∧True∧True∧vAl { n := n, m := m, N := N, r := r, no := no, op := op } g = if g_1.fst = no then alw N.toNat no r g_1.snd else vAl { n := n, m := m, N := N, r := r, no := no, op := op } g_1.fst)∧True)∧∀ (g_1 : Nat × Nat), (↑g : Int) = (↑g_1.fst : Int)∧g_1.snd≤g_1.fst + (1 : Nat)→(decide ((↑g_1.snd : Int) < (↑g : Int) + (1 : Int)) = true→(((↑g : Int) == (↑no : Int)) = true→(lookFn fnTab (36 : Nat)).isSome = true∧∃ (g : KeepIn), g.wf∧False)∧(((↑g : Int) == (↑no : Int)) = false→inRange IntKind.i64 ((↑g_1.snd : Int) + (1 : Int))∧∃ (g' : Nat × Nat), ((↑g : Int) = (↑g'.fst : Int)∧g'.snd≤g'.fst + (1 : Nat))∧g'.fst + (1 : Nat) - g'.snd < g_1.fst + (1 : Nat) - g_1.snd∧True∧((True∧(↑g_1.snd : Int) + (1 : Int) = (↑g'.snd : Int))∧True)∧(True∧True∧True∧(if g_1.fst = no then alw N.toNat no r g_1.snd else vAl { n := n, m := m, N := N, r := r, no := no, op := op } g_1.fst) = if g'.fst = no then alw N.toNat no r g'.snd else vAl { n := n, m := m, N := N, r := r, no := no, op := op } g'.fst)∧True))∧(decide ((↑g_1.snd : Int) < (↑g : Int) + (1 : Int)) = false→inRange IntKind.i64 ((↑g : Int) + (1 : Int))∧∃ (g' : Nat), g'≤N.toNat + (1 : Nat)∧N.toNat + (1 : Nat) - g' < N.toNat + (1 : Nat) - g∧True∧((True∧(↑g : Int) + (1 : Int) = (↑g' : Int))∧True)∧(True∧True∧True∧(if g_1.fst = no then alw N.toNat no r g_1.snd else vAl { n := n, m := m, N := N, r := r, no := no, op := op } g_1.fst) = vAl { n := n, m := m, N := N, r := r, no := no, op := op } g')∧True))∧(decide ((↑g : Int) < (0 : Int) + (1 : Int)) = false→(∃ (g : Nat), (g≤n∧∀ (k : Nat), k < g→¬(↑(cnt (m k) op no) : Int)≤prAl { n := n, m := m, N := N, r := r, no := no, op := op })∧True∧((True∧(0 : Int) = (↑g : Int))∧True)∧True)∧∀ (g_1 : Nat), (g_1≤n∧∀ (k : Nat), k < g_1→¬(↑(cnt (m k) op no) : Int)≤prAl { n := n, m := m, N := N, r := r, no := no, op := op })→(decide ((↑g_1 : Int) < (↑n : Int)) = true→(0 : Int)≤(↑g_1 : Int)∧(↑g_1 : Int) < (↑n : Int)∧(∃ (g : Nat × Nat), ((↑g_1 : Int) = (↑g.fst : Int)∧g.snd≤no)∧True∧((True∧(0 : Int) = (↑(cnt (m g.fst) op g.snd) : Int))∧(True∧(0 : Int) = (↑g.snd : Int))∧True)∧True)∧∀ (g_2 : Nat × Nat), (↑g_1 : Int) = (↑g_2.fst : Int)∧g_2.snd≤no→(decide ((↑g_2.snd : Int) < (↑no : Int)) = true→(0 : Int)≤(↑g_2.snd : Int)∧(↑g_2.snd : Int) < (↑no : Int)∧∃ (x : (Nat→Int) × (Nat→Int)), ((True∧(((((((True∧True∧m g_1 0 = x.fst 0)∧True∧m g_1 1 = x.fst 1)∧True∧m g_1 2 = x.fst 2)∧True∧m g_1 3 = x.fst 3)∧True∧m g_1 4 = x.fst 4)∧True∧m g_1 5 = x.fst 5)∧True∧m g_1 6 = x.fst 6)∧True∧m g_1 7 = x.fst 7)∧(True∧(((True∧True∧op g_2.snd 0 = x.snd 0)∧True∧op g_2.snd 1 = x.snd 1)∧True∧op g_2.snd 2 = x.snd 2)∧True∧op g_2.snd 3 = x.snd 3)∧True)∧markOk x.fst = true∧((!reach x.fst x.snd) = true→inRange IntKind.i64 ((↑(cnt (m g_2.fst) op g_2.snd) : Int) + (1 : Int))∧inRange IntKind.i64 ((↑g_2.snd : Int) + (1 : Int))∧∃ (g' : Nat × Nat), ((↑g_1 : Int) = (↑g'.fst : Int)∧g'.snd≤no)∧no - g'.snd < no - g_2.snd∧True∧((True∧(↑(cnt (m g_2.fst) op g_2.snd) : Int) + (1 : Int) = (↑(cnt (m g'.fst) op g'.snd) : Int))∧(True∧(↑g_2.snd : Int) + (1 : Int) = (↑g'.snd : Int))∧True)∧True)∧((!reach x.fst x.snd) = false→inRange IntKind.i64 ((↑g_2.snd : Int) + (1 : Int))∧∃ (g' : Nat × Nat), ((↑g_1 : Int) = (↑g'.fst : Int)∧g'.snd≤no)∧no - g'.snd < no - g_2.snd∧True∧((True∧(↑(cnt (m g_2.fst) op g_2.snd) : Int) = (↑(cnt (m g'.fst) op g'.snd) : Int))∧(True∧(↑g_2.snd : Int) + (1 : Int) = (↑g'.snd : Int))∧True)∧True))∧(decide ((↑g_2.snd : Int) < (↑no : Int)) = false→(decide ((↑(cnt (m g_2.fst) op g_2.snd) : Int)≤vAl { n := n, m := m, N := N, r := r, no := no, op := op } g) = true→(True∧(↑g_1 : Int) = prW { n := n, m := m, N := N, r := r, no := no, op := op })∧(True∧vAl { n := n, m := m, N := N, r := r, no := no, op := op } g = prA { n := n, m := m, N := N, r := r, no := no, op := op })∧(True∧(0 : Int) = prE { n := n, m := m, N := N, r := r, no := no, op := op })∧True)∧(decide ((↑(cnt (m g_2.fst) op g_2.snd) : Int)≤vAl { n := n, m := m, N := N, r := r, no := no, op := op } g) = false→inRange IntKind.i64 ((↑g_1 : Int) + (1 : Int))∧∃ (g' : Nat), (g'≤n∧∀ (k : Nat), k < g'→¬(↑(cnt (m k) op no) : Int)≤prAl { n := n, m := m, N := N, r := r, no := no, op := op })∧n - g' < n - g_1∧True∧((True∧(↑g_1 : Int) + (1 : Int) = (↑g' : Int))∧True)∧True)))∧(decide ((↑g_1 : Int) < (↑n : Int)) = false→(True∧(0 : Int) = prW { n := n, m := m, N := N, r := r, no := no, op := op })∧(True∧(0 : Int) = prA { n := n, m := m, N := N, r := r, no := no, op := op })∧(True∧(4 : Int) = prE { n := n, m := m, N := N, r := r, no := no, op := op })∧True))))))∧((!within x.fst x.snd.fst x.snd.snd) = false→(True∧∀ (ks : List Int) (x : Int), none = some x→x = cI (ks.getD (0 : Nat) (0 : Int)) (ks.getD (1 : Nat) (0 : Int)))∧(lookFn fnTab (60 : Nat)).isSome = true∧∃ (g : Nat × (Nat→Int)), g.fst≤(1000000 : Nat)∧True∧((True∧(True∧True∧N = (↑g.fst : Int))∧True)∧(True∧(((((True∧True∧r 0 = g.snd 0)∧True∧r 1 = g.snd 1)∧True∧r 2 = g.snd 2)∧True∧r 3 = g.snd 3)∧True∧r 4 = g.snd 4)∧True∧r 5 = g.snd 5)∧True)∧((True∧∀ (ks : List Int) (x : Int), x = cI (ks.getD (0 : Nat) (0 : Int)) (ks.getD (1 : Nat) (0 : Int))→x = cI (ks.getD (0 : Nat) (0 : Int)) (ks.getD (1 : Nat) (0 : Int)))∧True)∧((True∧∀ (ks : List Int) (x : Int), x = cI (ks.getD (0 : Nat) (0 : Int)) (ks.getD (1 : Nat) (0 : Int))→x = cI (ks.getD (0 : Nat) (0 : Int)) (ks.getD (1 : Nat) (0 : Int)))∧True)∧((!ruleOk (↑g.fst : Int) g.snd) = true→(((71 : Int) != (0 : Int)) = true→(True∧(0 : Int) = prW { n := n, m := m, N := N, r := r, no := no, op := op })∧(True∧(0 : Int) = prA { n := n, m := m, N := N, r := r, no := no, op := op })∧(True∧(71 : Int) = prE { n := n, m := m, N := N, r := r, no := no, op := op })∧True)∧(((71 : Int) != (0 : Int)) = false→(∃ (g : Nat), g≤no∧True∧((True∧decide ((↑no : Int)≤N) = (decide ((↑no : Int)≤N) && allB g fun (k : Nat) => barOk (op k)))∧(True∧(0 : Int) = (↑g : Int))∧True)∧True)∧∀ (g : Nat), g≤no→(decide ((↑g : Int) < (↑no : Int)) = true→(0 : Int)≤(↑g : Int)∧(↑g : Int) < (↑no : Int)∧((decide ((↑no : Int)≤N) && allB g fun (k : Nat) => barOk (op k)) = true→∃ (x : Nat→Int), ((True∧(((True∧True∧op g 0 = x 0)∧True∧op g 1 = x 1)∧True∧op g 2 = x 2)∧True∧op g 3 = x 3)∧True)∧True∧inRange IntKind.i64 ((↑g : Int) + (1 : Int))∧∃ (g' : Nat), g'≤no∧no - g' < no - g∧True∧((True∧barOk x = (decide ((↑no : Int)≤N) && allB g' fun (k : Nat) => barOk (op k)))∧(True∧(↑g : Int) + (1 : Int) = (↑g' : Int))∧True)∧True)∧((decide ((↑no : Int)≤N) && allB g fun (k : Nat) => barOk (op k)) = false→inRange IntKind.i64 ((↑g : Int) + (1 : Int))∧∃ (g' : Nat), g'≤no∧no - g' < no - g∧True∧((True∧(decide ((↑no : Int)≤N) && allB g' fun (k : Nat) => barOk (op k)) = false)∧(True∧(↑g : Int) + (1 : Int) = (↑g' : Int))∧True)∧True))∧(decide ((↑g : Int) < (↑no : Int)) = false→((!(decide ((↑no : Int)≤N) && allB g fun (k : Nat) => barOk (op k))) = true→(True∧(0 : Int) = prW { n := n, m := m, N := N, r := r, no := no, op := op })∧(True∧(0 : Int) = prA { n := n, m := m, N := N, r := r, no := no, op := op })∧(True∧(73 : Int) = prE { n := n, m := m, N := N, r := r, no := no, op := op })∧True)∧((!(decide ((↑no : Int)≤N) && allB g fun (k : Nat) => barOk (op k))) = false→inRange IntKind.i64 (N + (1 : Int))∧(∃ (g : Nat), g≤N.toNat + (1 : Nat)∧True∧((True∧(0 : Int) = (↑g : Int))∧True)∧(True∧True∧True∧(-1 : Int) = vAl { n := n, m := m, N := N, r := r, no := no, op := op } g)∧True)∧∀ (g : Nat), g≤N.toNat + (1 : Nat)→(decide ((↑g : Int) < N + (1 : Int)) = true→inRange IntKind.i64 ((↑g : Int) + (1 : Int))∧(∃ (g_1 : Nat × Nat), ((↑g : Int) = (↑g_1.fst : Int)∧g_1.snd≤g_1.fst + (1 : Nat))∧True∧((True∧(0 : Int) = (↑g_1.snd : Int))∧True)∧(True∧True∧True∧vAl { n := n, m := m, N := N, r := r, no := no, op := op } g = if g_1.fst = no then alw N.toNat no r g_1.snd else vAl { n := n, m := m, N := N, r := r, no := no, op := op } g_1.fst)∧True)∧∀ (g_1 : Nat × Nat), (↑g : Int) = (↑g_1.fst : Int)∧g_1.snd≤g_1.fst + (1 : Nat)→(decide ((↑g_1.snd : Int) < (↑g : Int) + (1 : Int)) = true→(((↑g : Int) == (↑no : Int)) = true→(lookFn fnTab (36 : Nat)).isSome = true∧∃ (g_2 : KeepIn), g_2.wf∧True∧((True∧(True∧True∧N = (↑g_2.N : Int))∧True)∧(True∧(((((True∧True∧r 0 = g_2.r 0)∧True∧r 1 = g_2.r 1)∧True∧r 2 = g_2.r 2)∧True∧r 3 = g_2.r 3)∧True∧r 4 = g_2.r 4)∧True∧r 5 = g_2.r 5)∧(True∧(True∧True∧(↑g : Int) = (↑g_2.o : Int))∧True∧(↑g_1.snd : Int) = (↑g_2.a : Int))∧True)∧((True∧∀ (ks : List Int) (x : Int), x = cI (ks.getD (0 : Nat) (0 : Int)) (ks.getD (1 : Nat) (0 : Int))→x = cI (ks.getD (0 : Nat) (0 : Int)) (ks.getD (1 : Nat) (0 : Int)))∧True)∧((True∧∀ (ks : List Int) (x : Int), x = cI (ks.getD (0 : Nat) (0 : Int)) (ks.getD (1 : Nat) (0 : Int))→x = cI (ks.getD (0 : Nat) (0 : Int)) (ks.getD (1 : Nat) (0 : Int)))∧True)∧(keeps g_2.N g_2.o g_2.a g_2.r = true→inRange IntKind.i64 ((↑g_1.snd : Int) + (1 : Int))∧∃ (g' : Nat × Nat), ((↑g : Int) = (↑g'.fst : Int)∧g'.snd≤g'.fst + (1 : Nat))∧g'.fst + (1 : Nat) - g'.snd < g_1.fst + (1 : Nat) - g_1.snd∧True∧((True∧(↑g_1.snd : Int) + (1 : Int) = (↑g'.snd : Int))∧True)∧(True∧True∧True∧(↑g_1.snd : Int) = if g'.fst = no then alw N.toNat no r g'.snd else vAl { n := n, m := m, N := N, r := r, no := no, op := op } g'.fst)∧True)∧(keeps g_2.N g_2.o g_2.a g_2.r = false→inRange IntKind.i64 ((↑g_1.snd : Int) + (1 : Int))∧∃ (g' : Nat × Nat), ((↑g : Int) = (↑g'.fst : Int)∧g'.snd≤g'.fst + (1 : Nat))∧g'.fst + (1 : Nat) - g'.snd < g_1.fst + (1 : Nat) - g_1.snd∧True∧((True∧(↑g_1.snd : Int) + (1 : Int) = (↑g'.snd : Int))∧True)∧(True∧True∧True∧(if g_1.fst = no then alw N.toNat no r g_1.snd else vAl { n := n, m := m, N := N, r := r, no := no, op := op } g_1.fst) = if g'.fst = no then alw N.toNat no r g'.snd else vAl { n := n, m := m, N := N, r := r, no := no, op := op } g'.fst)∧True))∧(((↑g : Int) == (↑no : Int)) = false→inRange IntKind.i64 ((↑g_1.snd : Int) + (1 : Int))∧∃ (g' : Nat × Nat), ((↑g : Int) = (↑g'.fst : Int)∧g'.snd≤g'.fst + (1 : Nat))∧g'.fst + (1 : Nat) - g'.snd < g_1.fst + (1 : Nat) - g_1.snd∧True∧((True∧(↑g_1.snd : Int) + (1 : Int) = (↑g'.snd : Int))∧True)∧(True∧True∧True∧(if g_1.fst = no then alw N.toNat no r g_1.snd else vAl { n := n, m := m, N := N, r := r, no := no, op := op } g_1.fst) = if g'.fst = no then alw N.toNat no r g'.snd else vAl { n := n, m := m, N := N, r := r, no := no, op := op } g'.fst)∧True))∧(decide ((↑g_1.snd : Int) < (↑g : Int) + (1 : Int)) = false→inRange IntKind.i64 ((↑g : Int) + (1 : Int))∧∃ (g' : Nat), g'≤N.toNat + (1 : Nat)∧N.toNat + (1 : Nat) - g' < N.toNat + (1 : Nat) - g∧True∧((True∧(↑g : Int) + (1 : Int) = (↑g' : Int))∧True)∧(True∧True∧True∧(if g_1.fst = no then alw N.toNat no r g_1.snd else vAl { n := n, m := m, N := N, r := r, no := no, op := op } g_1.fst) = vAl { n := n, m := m, N := N, r := r, no := no, op := op } g')∧True))∧(decide ((↑g : Int) < N + (1 : Int)) = false→(∃ (g : Nat), (g≤n∧∀ (k : Nat), k < g→¬(↑(cnt (m k) op no) : Int)≤prAl { n := n, m := m, N := N, r := r, no := no, op := op })∧True∧((True∧(0 : Int) = (↑g : Int))∧True)∧True)∧∀ (g_1 : Nat), (g_1≤n∧∀ (k : Nat), k < g_1→¬(↑(cnt (m k) op no) : Int)≤prAl { n := n, m := m, N := N, r := r, no := no, op := op })→(decide ((↑g_1 : Int) < (↑n : Int)) = true→(0 : Int)≤(↑g_1 : Int)∧(↑g_1 : Int) < (↑n : Int)∧(∃ (g : Nat × Nat), ((↑g_1 : Int) = (↑g.fst : Int)∧g.snd≤no)∧True∧((True∧(0 : Int) = (↑(cnt (m g.fst) op g.snd) : Int))∧(True∧(0 : Int) = (↑g.snd : Int))∧True)∧True)∧∀ (g_2 : Nat × Nat), (↑g_1 : Int) = (↑g_2.fst : Int)∧g_2.snd≤no→(decide ((↑g_2.snd : Int) < (↑no : Int)) = true→(0 : Int)≤(↑g_2.snd : Int)∧(↑g_2.snd : Int) < (↑no : Int)∧∃ (x : (Nat→Int) × (Nat→Int)), ((True∧(((((((True∧True∧m g_1 0 = x.fst 0)∧True∧m g_1 1 = x.fst 1)∧True∧m g_1 2 = x.fst 2)∧True∧m g_1 3 = x.fst 3)∧True∧m g_1 4 = x.fst 4)∧True∧m g_1 5 = x.fst 5)∧True∧m g_1 6 = x.fst 6)∧True∧m g_1 7 = x.fst 7)∧(True∧(((True∧True∧op g_2.snd 0 = x.snd 0)∧True∧op g_2.snd 1 = x.snd 1)∧True∧op g_2.snd 2 = x.snd 2)∧True∧op g_2.snd 3 = x.snd 3)∧True)∧markOk x.fst = true∧((!reach x.fst x.snd) = true→inRange IntKind.i64 ((↑(cnt (m g_2.fst) op g_2.snd) : Int) + (1 : Int))∧inRange IntKind.i64 ((↑g_2.snd : Int) + (1 : Int))∧∃ (g' : Nat × Nat), ((↑g_1 : Int) = (↑g'.fst : Int)∧g'.snd≤no)∧no - g'.snd < no - g_2.snd∧True∧((True∧(↑(cnt (m g_2.fst) op g_2.snd) : Int) + (1 : Int) = (↑(cnt (m g'.fst) op g'.snd) : Int))∧(True∧(↑g_2.snd : Int) + (1 : Int) = (↑g'.snd : Int))∧True)∧True)∧((!reach x.fst x.snd) = false→inRange IntKind.i64 ((↑g_2.snd : Int) + (1 : Int))∧∃ (g' : Nat × Nat), ((↑g_1 : Int) = (↑g'.fst : Int)∧g'.snd≤no)∧no - g'.snd < no - g_2.snd∧True∧((True∧(↑(cnt (m g_2.fst) op g_2.snd) : Int) = (↑(cnt (m g'.fst) op g'.snd) : Int))∧(True∧(↑g_2.snd : Int) + (1 : Int) = (↑g'.snd : Int))∧True)∧True))∧(decide ((↑g_2.snd : Int) < (↑no : Int)) = false→(decide ((↑(cnt (m g_2.fst) op g_2.snd) : Int)≤vAl { n := n, m := m, N := N, r := r, no := no, op := op } g) = true→(True∧(↑g_1 : Int) = prW { n := n, m := m, N := N, r := r, no := no, op := op })∧(True∧vAl { n := n, m := m, N := N, r := r, no := no, op := op } g = prA { n := n, m := m, N := N, r := r, no := no, op := op })∧(True∧(0 : Int) = prE { n := n, m := m, N := N, r := r, no := no, op := op })∧True)∧(decide ((↑(cnt (m g_2.fst) op g_2.snd) : Int)≤vAl { n := n, m := m, N := N, r := r, no := no, op := op } g) = false→inRange IntKind.i64 ((↑g_1 : Int) + (1 : Int))∧∃ (g' : Nat), (g'≤n∧∀ (k : Nat), k < g'→¬(↑(cnt (m k) op no) : Int)≤prAl { n := n, m := m, N := N, r := r, no := no, op := op })∧n - g' < n - g_1∧True∧((True∧(↑g_1 : Int) + (1 : Int) = (↑g' : Int))∧True)∧True)))∧(decide ((↑g_1 : Int) < (↑n : Int)) = false→(True∧(0 : Int) = prW { n := n, m := m, N := N, r := r, no := no, op := op })∧(True∧(0 : Int) = prA { n := n, m := m, N := N, r := r, no := no, op := op })∧(True∧(4 : Int) = prE { n := n, m := m, N := N, r := r, no := no, op := op })∧True))))))∧((!ruleOk (↑g.fst : Int) g.snd) = false→(((0 : Int) != (0 : Int)) = true→(True∧(0 : Int) = prW { n := n, m := m, N := N, r := r, no := no, op := op })∧(True∧(0 : Int) = prA { n := n, m := m, N := N, r := r, no := no, op := op })∧(True∧(0 : Int) = prE { n := n, m := m, N := N, r := r, no := no, op := op })∧True)∧(((0 : Int) != (0 : Int)) = false→(∃ (g : Nat), g≤no∧True∧((True∧decide ((↑no : Int)≤N) = (decide ((↑no : Int)≤N) && allB g fun (k : Nat) => barOk (op k)))∧(True∧(0 : Int) = (↑g : Int))∧True)∧True)∧∀ (g : Nat), g≤no→(decide ((↑g : Int) < (↑no : Int)) = true→(0 : Int)≤(↑g : Int)∧(↑g : Int) < (↑no : Int)∧((decide ((↑no : Int)≤N) && allB g fun (k : Nat) => barOk (op k)) = true→∃ (x : Nat→Int), ((True∧(((True∧True∧op g 0 = x 0)∧True∧op g 1 = x 1)∧True∧op g 2 = x 2)∧True∧op g 3 = x 3)∧True)∧True∧inRange IntKind.i64 ((↑g : Int) + (1 : Int))∧∃ (g' : Nat), g'≤no∧no - g' < no - g∧True∧((True∧barOk x = (decide ((↑no : Int)≤N) && allB g' fun (k : Nat) => barOk (op k)))∧(True∧(↑g : Int) + (1 : Int) = (↑g' : Int))∧True)∧True)∧((decide ((↑no : Int)≤N) && allB g fun (k : Nat) => barOk (op k)) = false→inRange IntKind.i64 ((↑g : Int) + (1 : Int))∧∃ (g' : Nat), g'≤no∧no - g' < no - g∧True∧((True∧(decide ((↑no : Int)≤N) && allB g' fun (k : Nat) => barOk (op k)) = false)∧(True∧(↑g : Int) + (1 : Int) = (↑g' : Int))∧True)∧True))∧(decide ((↑g : Int) < (↑no : Int)) = false→((!(decide ((↑no : Int)≤N) && allB g fun (k : Nat) => barOk (op k))) = true→(True∧(0 : Int) = prW { n := n, m := m, N := N, r := r, no := no, op := op })∧(True∧(0 : Int) = prA { n := n, m := m, N := N, r := r, no := no, op := op })∧(True∧(73 : Int) = prE { n := n, m := m, N := N, r := r, no := no, op := op })∧True)∧((!(decide ((↑no : Int)≤N) && allB g fun (k : Nat) => barOk (op k))) = false→inRange IntKind.i64 (N + (1 : Int))∧(∃ (g : Nat), g≤N.toNat + (1 : Nat)∧True∧((True∧(0 : Int) = (↑g : Int))∧True)∧(True∧True∧True∧(-1 : Int) = vAl { n := n, m := m, N := N, r := r, no := no, op := op } g)∧True)∧∀ (g : Nat), g≤N.toNat + (1 : Nat)→(decide ((↑g : Int) < N + (1 : Int)) = true→inRange IntKind.i64 ((↑g : Int) + (1 : Int))∧(∃ (g_1 : Nat × Nat), ((↑g : Int) = (↑g_1.fst : Int)∧g_1.snd≤g_1.fst + (1 : Nat))∧True∧((True∧(0 : Int) = (↑g_1.snd : Int))∧True)∧(True∧True∧True∧vAl { n := n, m := m, N := N, r := r, no := no, op := op } g = if g_1.fst = no then alw N.toNat no r g_1.snd else vAl { n := n, m := m, N := N, r := r, no := no, op := op } g_1.fst)∧True)∧∀ (g_1 : Nat × Nat), (↑g : Int) = (↑g_1.fst : Int)∧g_1.snd≤g_1.fst + (1 : Nat)→(decide ((↑g_1.snd : Int) < (↑g : Int) + (1 : Int)) = true→(((↑g : Int) == (↑no : Int)) = true→(lookFn fnTab (36 : Nat)).isSome = true∧∃ (g_2 : KeepIn), g_2.wf∧True∧((True∧(True∧True∧N = (↑g_2.N : Int))∧True)∧(True∧(((((True∧True∧r 0 = g_2.r 0)∧True∧r 1 = g_2.r 1)∧True∧r 2 = g_2.r 2)∧True∧r 3 = g_2.r 3)∧True∧r 4 = g_2.r 4)∧True∧r 5 = g_2.r 5)∧(True∧(True∧True∧(↑g : Int) = (↑g_2.o : Int))∧True∧(↑g_1.snd : Int) = (↑g_2.a : Int))∧True)∧((True∧∀ (ks : List Int) (x : Int), x = cI (ks.getD (0 : Nat) (0 : Int)) (ks.getD (1 : Nat) (0 : Int))→x = cI (ks.getD (0 : Nat) (0 : Int)) (ks.getD (1 : Nat) (0 : Int)))∧True)∧((True∧∀ (ks : List Int) (x : Int), x = cI (ks.getD (0 : Nat) (0 : Int)) (ks.getD (1 : Nat) (0 : Int))→x = cI (ks.getD (0 : Nat) (0 : Int)) (ks.getD (1 : Nat) (0 : Int)))∧True)∧(keeps g_2.N g_2.o g_2.a g_2.r = true→inRange IntKind.i64 ((↑g_1.snd : Int) + (1 : Int))∧∃ (g' : Nat × Nat), ((↑g : Int) = (↑g'.fst : Int)∧g'.snd≤g'.fst + (1 : Nat))∧g'.fst + (1 : Nat) - g'.snd < g_1.fst + (1 : Nat) - g_1.snd∧True∧((True∧(↑g_1.snd : Int) + (1 : Int) = (↑g'.snd : Int))∧True)∧(True∧True∧True∧(↑g_1.snd : Int) = if g'.fst = no then alw N.toNat no r g'.snd else vAl { n := n, m := m, N := N, r := r, no := no, op := op } g'.fst)∧True)∧(keeps g_2.N g_2.o g_2.a g_2.r = false→inRange IntKind.i64 ((↑g_1.snd : Int) + (1 : Int))∧∃ (g' : Nat × Nat), ((↑g : Int) = (↑g'.fst : Int)∧g'.snd≤g'.fst + (1 : Nat))∧g'.fst + (1 : Nat) - g'.snd < g_1.fst + (1 : Nat) - g_1.snd∧True∧((True∧(↑g_1.snd : Int) + (1 : Int) = (↑g'.snd : Int))∧True)∧(True∧True∧True∧(if g_1.fst = no then alw N.toNat no r g_1.snd else vAl { n := n, m := m, N := N, r := r, no := no, op := op } g_1.fst) = if g'.fst = no then alw N.toNat no r g'.snd else vAl { n := n, m := m, N := N, r := r, no := no, op := op } g'.fst)∧True))∧(((↑g : Int) == (↑no : Int)) = false→inRange IntKind.i64 ((↑g_1.snd : Int) + (1 : Int))∧∃ (g' : Nat × Nat), ((↑g : Int) = (↑g'.fst : Int)∧g'.snd≤g'.fst + (1 : Nat))∧g'.fst + (1 : Nat) - g'.snd < g_1.fst + (1 : Nat) - g_1.snd∧True∧((True∧(↑g_1.snd : Int) + (1 : Int) = (↑g'.snd : Int))∧True)∧(True∧True∧True∧(if g_1.fst = no then alw N.toNat no r g_1.snd else vAl { n := n, m := m, N := N, r := r, no := no, op := op } g_1.fst) = if g'.fst = no then alw N.toNat no r g'.snd else vAl { n := n, m := m, N := N, r := r, no := no, op := op } g'.fst)∧True))∧(decide ((↑g_1.snd : Int) < (↑g : Int) + (1 : Int)) = false→inRange IntKind.i64 ((↑g : Int) + (1 : Int))∧∃ (g' : Nat), g'≤N.toNat + (1 : Nat)∧N.toNat + (1 : Nat) - g' < N.toNat + (1 : Nat) - g∧True∧((True∧(↑g : Int) + (1 : Int) = (↑g' : Int))∧True)∧(True∧True∧True∧(if g_1.fst = no then alw N.toNat no r g_1.snd else vAl { n := n, m := m, N := N, r := r, no := no, op := op } g_1.fst) = vAl { n := n, m := m, N := N, r := r, no := no, op := op } g')∧True))∧(decide ((↑g : Int) < N + (1 : Int)) = false→(∃ (g : Nat), (g≤n∧∀ (k : Nat), k < g→¬(↑(cnt (m k) op no) : Int)≤prAl { n := n, m := m, N := N, r := r, no := no, op := op })∧True∧((True∧(0 : Int) = (↑g : Int))∧True)∧True)∧∀ (g_1 : Nat), (g_1≤n∧∀ (k : Nat), k < g_1→¬(↑(cnt (m k) op no) : Int)≤prAl { n := n, m := m, N := N, r := r, no := no, op := op })→(decide ((↑g_1 : Int) < (↑n : Int)) = true→(0 : Int)≤(↑g_1 : Int)∧(↑g_1 : Int) < (↑n : Int)∧(∃ (g : Nat × Nat), ((↑g_1 : Int) = (↑g.fst : Int)∧g.snd≤no)∧True∧((True∧(0 : Int) = (↑(cnt (m g.fst) op g.snd) : Int))∧(True∧(0 : Int) = (↑g.snd : Int))∧True)∧True)∧∀ (g_2 : Nat × Nat), (↑g_1 : Int) = (↑g_2.fst : Int)∧g_2.snd≤no→(decide ((↑g_2.snd : Int) < (↑no : Int)) = true→(0 : Int)≤(↑g_2.snd : Int)∧(↑g_2.snd : Int) < (↑no : Int)∧∃ (x : (Nat→Int) × (Nat→Int)), ((True∧(((((((True∧True∧m g_1 0 = x.fst 0)∧True∧m g_1 1 = x.fst 1)∧True∧m g_1 2 = x.fst 2)∧True∧m g_1 3 = x.fst 3)∧True∧m g_1 4 = x.fst 4)∧True∧m g_1 5 = x.fst 5)∧True∧m g_1 6 = x.fst 6)∧True∧m g_1 7 = x.fst 7)∧(True∧(((True∧True∧op g_2.snd 0 = x.snd 0)∧True∧op g_2.snd 1 = x.snd 1)∧True∧op g_2.snd 2 = x.snd 2)∧True∧op g_2.snd 3 = x.snd 3)∧True)∧markOk x.fst = true∧((!reach x.fst x.snd) = true→inRange IntKind.i64 ((↑(cnt (m g_2.fst) op g_2.snd) : Int) + (1 : Int))∧inRange IntKind.i64 ((↑g_2.snd : Int) + (1 : Int))∧∃ (g' : Nat × Nat), ((↑g_1 : Int) = (↑g'.fst : Int)∧g'.snd≤no)∧no - g'.snd < no - g_2.snd∧True∧((True∧(↑(cnt (m g_2.fst) op g_2.snd) : Int) + (1 : Int) = (↑(cnt (m g'.fst) op g'.snd) : Int))∧(True∧(↑g_2.snd : Int) + (1 : Int) = (↑g'.snd : Int))∧True)∧True)∧((!reach x.fst x.snd) = false→inRange IntKind.i64 ((↑g_2.snd : Int) + (1 : Int))∧∃ (g' : Nat × Nat), ((↑g_1 : Int) = (↑g'.fst : Int)∧g'.snd≤no)∧no - g'.snd < no - g_2.snd∧True∧((True∧(↑(cnt (m g_2.fst) op g_2.snd) : Int) = (↑(cnt (m g'.fst) op g'.snd) : Int))∧(True∧(↑g_2.snd : Int) + (1 : Int) = (↑g'.snd : Int))∧True)∧True))∧(decide ((↑g_2.snd : Int) < (↑no : Int)) = false→(decide ((↑(cnt (m g_2.fst) op g_2.snd) : Int)≤vAl { n := n, m := m, N := N, r := r, no := no, op := op } g) = true→(True∧(↑g_1 : Int) = prW { n := n, m := m, N := N, r := r, no := no, op := op })∧(True∧vAl { n := n, m := m, N := N, r := r, no := no, op := op } g = prA { n := n, m := m, N := N, r := r, no := no, op := op })∧(True∧(0 : Int) = prE { n := n, m := m, N := N, r := r, no := no, op := op })∧True)∧(decide ((↑(cnt (m g_2.fst) op g_2.snd) : Int)≤vAl { n := n, m := m, N := N, r := r, no := no, op := op } g) = false→inRange IntKind.i64 ((↑g_1 : Int) + (1 : Int))∧∃ (g' : Nat), (g'≤n∧∀ (k : Nat), k < g'→¬(↑(cnt (m k) op no) : Int)≤prAl { n := n, m := m, N := N, r := r, no := no, op := op })∧n - g' < n - g_1∧True∧((True∧(↑g_1 : Int) + (1 : Int) = (↑g' : Int))∧True)∧True)))∧(decide ((↑g_1 : Int) < (↑n : Int)) = false→(True∧(0 : Int) = prW { n := n, m := m, N := N, r := r, no := no, op := op })∧(True∧(0 : Int) = prA { n := n, m := m, N := N, r := r, no := no, op := op })∧(True∧(4 : Int) = prE { n := n, m := m, N := N, r := r, no := no, op := op })∧True))))))))) (by kernel_rfl) ?_
 obtain ⟨hn, hno⟩ : n < 4611686018427387904 ∧ no < 4611686018427387904 := h
 simp only [true_and, and_true, inR, Prod.exists, Prod.forall, and_assoc, exists_and_left, exists_eq_left', exists_eq_left, forall_eq, exists_const, forall_const, loopN, loopM, fa2, fas, fas2, dup1, dup2, dup3, dup4, ite_true, exhs, exhn, exhz, exho, exA, ex1, ex2, ex3, ex4, ex5, beqI, bneI, decide_true, Bool.true_and, decide_eq_true_eq, decide_eq_false_iff_not, ne_eq, Decidable.not_not]
 have f70 : ¬ marksOk n m = true → 0 = prW (⟨n, m, N, r, no, op⟩ : PrIn) ∧ 0 = prA (⟨n, m, N, r, no, op⟩ : PrIn) ∧ 70 = prE (⟨n, m, N, r, no, op⟩ : PrIn) := pr_70 (x := (⟨n, m, N, r, no, op⟩ : PrIn))
 have f7 : marksOk n m = true → ¬ within N 1 40 = true → 0 = prW (⟨n, m, N, r, no, op⟩ : PrIn) ∧ 0 = prA (⟨n, m, N, r, no, op⟩ : PrIn) ∧ 7 = prE (⟨n, m, N, r, no, op⟩ : PrIn) := pr_7 (x := (⟨n, m, N, r, no, op⟩ : PrIn))
 have f71 : marksOk n m = true → within N 1 40 = true → ¬ ruleOk N r = true → 0 = prW (⟨n, m, N, r, no, op⟩ : PrIn) ∧ 0 = prA (⟨n, m, N, r, no, op⟩ : PrIn) ∧ 71 = prE (⟨n, m, N, r, no, op⟩ : PrIn) := pr_71 (x := (⟨n, m, N, r, no, op⟩ : PrIn))
 have f73 : marksOk n m = true → within N 1 40 = true → ruleOk N r = true → ¬ (decide ((no : Int) ≤ N) && allB no fun k => barOk (op k)) = true → 0 = prW (⟨n, m, N, r, no, op⟩ : PrIn) ∧ 0 = prA (⟨n, m, N, r, no, op⟩ : PrIn) ∧ 73 = prE (⟨n, m, N, r, no, op⟩ : PrIn) := pr_73 (x := (⟨n, m, N, r, no, op⟩ : PrIn))
 have f4 : marksOk n m = true → within N 1 40 = true → ruleOk N r = true → (decide ((no : Int) ≤ N) && allB no fun k => barOk (op k)) = true → (∀ i, i < n → ¬ (cnt (m i) op no : Int) ≤ prAl (⟨n, m, N, r, no, op⟩ : PrIn)) → 0 = prW (⟨n, m, N, r, no, op⟩ : PrIn) ∧ 0 = prA (⟨n, m, N, r, no, op⟩ : PrIn) ∧ 4 = prE (⟨n, m, N, r, no, op⟩ : PrIn) := pr_4 (x := (⟨n, m, N, r, no, op⟩ : PrIn))
 have f0 : marksOk n m = true → within N 1 40 = true → ruleOk N r = true → (decide ((no : Int) ≤ N) && allB no fun k => barOk (op k)) = true → ∀ {i : Nat}, i < n → (∀ k, k < i → ¬ (cnt (m k) op no : Int) ≤ prAl (⟨n, m, N, r, no, op⟩ : PrIn)) → (cnt (m i) op no : Int) ≤ prAl (⟨n, m, N, r, no, op⟩ : PrIn) → (i : Int) = prW (⟨n, m, N, r, no, op⟩ : PrIn) ∧ prAl (⟨n, m, N, r, no, op⟩ : PrIn) = prA (⟨n, m, N, r, no, op⟩ : PrIn) ∧ 0 = prE (⟨n, m, N, r, no, op⟩ : PrIn) := fun a b c d {i} => pr_0 (x := (⟨n, m, N, r, no, op⟩ : PrIn)) a b c d
 have cl := fun i k => cnt_le (m := m i) (op := op) k
 have ce : ∀ i k, reach (m i) (op k) = false → cnt (m i) op (k + 1) = cnt (m i) op k + 1 := fun i k h => by
   show cnt (m i) op k + (if reach (m i) (op k) then 0 else 1) = _
   rw [h]; rfl
 have cs : ∀ i k, reach (m i) (op k) = true → cnt (m i) op (k + 1) = cnt (m i) op k := fun i k h => by
   show cnt (m i) op k + (if reach (m i) (op k) then 0 else 1) = _
   rw [h]; rfl
 have bs : ∀ i, (allB (i + 1) fun k => barOk (op k)) = ((allB i fun k => barOk (op k)) && barOk (op i)) := fun _ => rfl
 refine ⟨m, fun _ _ => ⟨rfl, rfl, rfl, rfl, rfl, rfl, rfl, rfl⟩, hn, fun h1 => f70 (by simpa using h1), fun h1 => ?_⟩
 have h1 : marksOk n m = true := by simpa using h1
 have mk : ∀ i, i < n → markOk (m i) = true := fun i hi => by
   have : (within n 1 5 && allB n fun k => markOk (m k)) = true := h1
   exact allB_iff.1 (Bool.and_eq_true_iff.1 this).2 i hi
 refine ⟨fun hw => ⟨fun _ => f7 h1 (by simpa using hw), fun h => absurd h (by omega)⟩, fun hw => ?_⟩
 have hw : within N 1 40 = true := by simpa using hw
 have w1 := Bm.within_iff.1 hw
 obtain ⟨k, rfl⟩ : ∃ k : Nat, N = k := ⟨N.toNat, by omega⟩
 refine ⟨fun _ _ h => (by cases h), is60, k, by omega, rfl, r, rfl, rfl, rfl, rfl, rfl, rfl, fun h2 => ⟨fun _ => f71 h1 hw (by simpa using h2), fun h => absurd h (by omega)⟩, fun h2 => ?_⟩
 have h2 : ruleOk k r = true := by simpa using h2
 simp only [Int.toNat_natCast]
 refine ⟨fun h => absurd trivial h, Nat.zero_le _, by simp [allB], fun i hi => ⟨by omega, by omega, fun h3 => ⟨op i, rfl, rfl, rfl, rfl, by omega, by omega, by omega, by omega, ?_⟩, fun h3 => ⟨by omega, by omega, by omega, by omega, ?_⟩⟩, fun h3 => f73 h1 hw h2 (fun hc => by rw [hc] at h3; simp at h3), fun h3 => ?_⟩
 · rw [bs, ← Bool.and_assoc, h3, Bool.true_and]
 · rw [bs, ← Bool.and_assoc, h3, Bool.false_and]
 have h3 : (decide ((no : Int) ≤ (k : Int)) && allB no fun k => barOk (op k)) = true := by simpa using h3
 have hnk : no ≤ k := by
   have := (Bool.and_eq_true_iff.1 h3).1
   simp only [decide_eq_true_eq] at this
   omega
 have va : ∀ j, vAl ⟨n, m, (k : Int), r, no, op⟩ j = if no < j then alw k no r (no + 1) else -1 := fun j => by
   unfold vAl prAl
   simp only [Int.toNat_natCast]
 have pa : prAl ⟨n, m, (k : Int), r, no, op⟩ = alw k no r (no + 1) := rfl
 have at_ : ∀ b, keeps k no b r = true → alw k no r (b + 1) = b := fun b h => by
   show (if keeps k no b r then (b : Int) else alw k no r b) = b
   rw [h]; rfl
 have af : ∀ b, keeps k no b r = false → alw k no r (b + 1) = alw k no r b := fun b h => by
   show (if keeps k no b r then (b : Int) else alw k no r b) = _
   rw [h]; rfl
 simp only [va, pa] at f4 f0 ⊢
 refine ⟨by omega, by omega, ⟨0, by omega, rfl, by rw [if_neg (Nat.not_lt_zero _)]⟩, fun j hj => ⟨fun hlt => ⟨by omega, by omega, ⟨0, by omega, rfl, ?_⟩, fun b hb => ⟨fun hb2 => ⟨fun e => ⟨is36, ⟨k, j, b, r⟩, ⟨by show k ≤ 40; omega, by show j ≤ k; omega, by show b ≤ j; omega, h2⟩, rfl, rfl, rfl, rfl, rfl, rfl, rfl, rfl, rfl, fun hk => ⟨by omega, by omega, b + 1, by omega, by omega, rfl, ?_⟩, fun hk => ⟨by omega, by omega, b + 1, by omega, by omega, rfl, ?_⟩⟩, fun ne => ⟨by omega, by omega, b + 1, by omega, by omega, rfl, ?_⟩⟩, fun hb2 => ⟨by omega, by omega, j + 1, by omega, by omega, rfl, ?_⟩⟩⟩, fun hge => ?_⟩⟩
 · by_cases e : j = no
   · subst e; rw [if_neg (Nat.lt_irrefl _), if_pos rfl]; rfl
   · rw [if_neg e]
 · obtain rfl : j = no := by omega
   rw [if_pos rfl]; exact (at_ b hk).symm
 · obtain rfl : j = no := by omega
   rw [if_pos rfl, if_pos rfl]; exact (af b hk).symm
 · have ne : ¬ j = no := fun h => ne (by omega)
   rw [if_neg ne, if_neg ne]
 · obtain rfl : b = j + 1 := by omega
   by_cases e : j = no
   · subst e; rw [if_pos rfl, if_pos (Nat.lt_succ_self _)]
   · rw [if_neg e]
     by_cases c : no < j
     · rw [if_pos c, if_pos (by omega)]
     · rw [if_neg c, if_neg (by omega)]
 · obtain rfl : j = k + 1 := by omega
   rw [if_pos (by omega : no < k + 1)]
   refine ⟨Nat.zero_le _, fun q hq => absurd hq (Nat.not_lt_zero q), fun i hi hpre => ⟨by omega, by omega, Nat.zero_le _, rfl, fun q hq => ⟨by omega, by omega, m i, rfl, rfl, rfl, rfl, rfl, rfl, rfl, rfl, op q, rfl, rfl, rfl, rfl, mk i hi, fun h4 => ?_, fun h4 => ?_⟩, fun h4 => f0 h1 hw h2 h3 hi hpre h4, fun h4 => ⟨by omega, by omega, by omega, fun q hq => ?_, by omega⟩⟩, fun hall => f4 h1 hw h2 h3 hall⟩
   · have := cl i q
     have e := ce i q (by simpa using h4)
     exact ⟨by omega, by omega, by omega, by omega, by omega, by omega, by omega⟩
   · have e := cs i q (by simpa using h4)
     exact ⟨by omega, by omega, by omega, by omega, by omega⟩
   · by_cases e : q = i
     · subst e; exact h4
     · exact hpre q (by omega)
end Go.Proofs.Ytpigkgoooekcgaa
namespace Go.Sx
open Go
variable {P : Program} {E : Env}
theorem kept_say (hE : EnvOk P E) (T : List (Nat × Sig)) (hT : SigsOk P E T) (V : List (Nat × ESpec)) (hV : EvensOk P E V) (h0 : ∀ f, (E.fn f).isSome = true → ∃ fn c, P.funcs[f]? = some fn ∧ (fn.name == "runtime.NumGoroutine") = false ∧ fn.body = some c) {f : FuncId} (R : KSpec) (s : R.γ → Say) {fuel : Nat}
   (h : ∀ g, R.ok g → inlBody (E.say T V (s g)) (vc (E.say T V (s g)) fuel) f (R.arg g) (canonHp (R.hp g)) (lenR (R.hp g)) [] (fun v hp _ _ => keptFit R g v hp)) : ∀ g, R.ok g → SemK P E f R g :=
 fun g hg => SemK.congr (E := E.say T V (s g)) (E' := E) say_gl (semK_of (hE.say_ hT hV h0 (s g)) (fun _ _ hI hIf hY => draw_ok (hE.say_ hT hV h0 (s g)) hI hIf hY) (h g hg))
def lookPz : List (Nat × List Nat) → Option Nat → List Nat
 | [], _ => []
 | _ :: _, none => []
 | (d, l) :: t, some n => match Nat.beq n d with | true => l | false => lookPz t (some n)
def Env.pzs (E : Env) (p : List (Nat × List Nat)) : Env := { E with pz := lookPz p }
theorem EnvOk.pzs (hE : EnvOk P E) (p : List (Nat × List Nat)) : EnvOk P (E.pzs p) :=
 ⟨hE.tab, hE.fn, hE.runs, fun g t x ht hx => CallQ.congr (E := E) (E' := E.pzs p) rfl (hE.sig g t x ht hx), hE.mix, hE.maps, fun g R x hR hx => SemRec.congr (E := E) (E' := E.pzs p) rfl (hE.again g R x hR hx), fun g R x hR hx => SemK.congr (E := E) (E' := E.pzs p) rfl (hE.kept g R x hR hx), fun g R x hR hx => SemK.congr (E := E) (E' := E.pzs p) rfl (hE.even g R x hR hx)⟩
theorem pzs_gl (E : Env) (p : List (Nat × List Nat)) : (E.pzs p).gl = E.gl := rfl
theorem kept_rec (hE : EnvOk P E) (T : List (Nat × Sig)) (hT : SigsOk P E T) (V : List (Nat × ESpec)) (hV : EvensOk P E V) (h0 : ∀ f, (E.fn f).isSome = true → ∃ fn c, P.funcs[f]? = some fn ∧ (fn.name == "runtime.NumGoroutine") = false ∧ fn.body = some c) {f : FuncId} (R : KSpec) (s : R.γ → Say) (p : List (Nat × List Nat)) {fuel : Nat} (mu : R.γ → Nat)
   (h : ∀ n g, R.ok g → mu g = n → inlBody (((E.kep f (R.below mu n)).say T V (s g)).pzs p) (vc (((E.kep f (R.below mu n)).say T V (s g)).pzs p) fuel) f (R.arg g) (canonHp (R.hp g)) (lenR (R.hp g)) [] (fun v hp _ _ => keptFit R g v hp)) : ∀ g, R.ok g → SemK P E f R g :=
 semK_ind hE R mu fun n hEn g hg hn =>
   have hn1 : EnvOk P (((E.kep f (R.below mu n)).say T V (s g)).pzs p) := EnvOk.pzs (hEn.say_ (hT.congr (E := E) (E' := E.kep f (R.below mu n)) rfl) (hV.congr (E := E) (E' := E.kep f (R.below mu n)) rfl) h0 (s g)) p
   SemK.congr (E := ((E.kep f (R.below mu n)).say T V (s g)).pzs p) (E' := E.kep f (R.below mu n)) ((pzs_gl _ p).trans say_gl)
     (semK_of hn1 (fun _ _ hI hIf hY => draw_ok hn1 hI hIf hY) (h n g hg hn))
theorem bare_kep (hE : EnvOk P E) (T : List (Nat × Sig)) (hT : SigsOk P E T) (V : List (Nat × ESpec)) (hV : EvensOk P E V) (h0 : ∀ f, (E.fn f).isSome = true → ∃ fn c, P.funcs[f]? = some fn ∧ (fn.name == "runtime.NumGoroutine") = false ∧ fn.body = some c) {f0 : FuncId} (R : KSpec) (hR : ∀ g, R.ok g → SemK P E f0 R g) (s : Say) {fuel : Nat} {f : FuncId} {args : List TV} {rs : List RV}
   (h : inlOf ((E.kep f0 R).say T V s) (vc ((E.kep f0 R).say T V s) fuel) f args (fun _ => none) 0 [] (fun v hp _ _ => resFit hp v rs)) : CallQ P E f args rs :=
 CallQ.congr (E := E.kep f0 R) (E' := E) rfl (bare_say (hE.kep hR) T (hT.congr (E := E) (E' := E.kep f0 R) rfl) V (hV.congr (E := E) (E' := E.kep f0 R) rfl) h0 s h)
end Go.Sx
