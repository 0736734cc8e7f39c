/- Texts for the law of the last part, part 11. -/
import Derived.Test.YtpigkgoooekcgaaTopGradedP10
set_option linter.unusedSimpArgs false
set_option linter.unusedVariables false
namespace Bm
open Go Go.Sx
def spanTV (a b : Int) : TV := .a 2 (fun j => .int .i64 (if j = 0 then a else b))
def spansCV (n : Nat) (s : Nat → Nat → Int) : CV := .vs 2 n (fun i j => .int .i64 (s i j))
def intsCV (n : Nat) (f : Nat → Int) : CV := .vs 1 n (fun i _ => .int .i64 (f i))
def ldBad (a b : Int) : Bool := decide (a < 0) || (decide (b < a) || decide (1000 < b))
def loadsOk (n : Nat) (s : Nat → Nat → Int) : Bool := within n 1 40 && allB n (fun i => !ldBad (s i 0) (s i 1))
def mxL (s : Nat → Nat → Int) : Nat → Int
 | 0 => s 0 0
 | k + 1 => imax (mxL s k) (s k 0)
def mnH (s : Nat → Nat → Int) : Nat → Int
 | 0 => s 0 1
 | k + 1 => imin (mnH s k) (s k 1)
def alikeB (n : Nat) (s : Nat → Nat → Int) : Bool := decide (mxL s n ≤ mnH s n)
def cutS (s : Nat → Nat → Int) (a : Nat) : Nat → Nat → Int := fun i j => s (i + a) j
def lastI (l : List Int) : Int := l.getD (l.length - 1) 0
def lotsL (s : Nat → Nat → Int) : Nat → List Int
 | 0 => [0]
 | i + 1 => if alikeB (i + 1 - (lastI (lotsL s i)).toNat) (cutS s (lastI (lotsL s i)).toNat) then lotsL s i else lotsL s i ++ [(i : Int)]
def toI (n m : Nat) (f : Nat → Int) (i : Nat) : Int := if i + 1 < m then f (i + 1) else n
def lotOk (n : Nat) (s : Nat → Nat → Int) (m : Nat) (f : Nat → Int) (i : Nat) : Bool := within (toI n m f i) (f i + 1) n && alikeB ((toI n m f i).toNat - (f i).toNat) (cutS s (f i).toNat)
def areLots (n : Nat) (s : Nat → Nat → Int) (m : Nat) (f : Nat → Int) : Bool := decide (0 < m) && decide (f 0 = 0) && allB m (lotOk n s m f)
theorem imax_ge {a b : Int} : a ≤ imax a b ∧ b ≤ imax a b := by unfold imax; split <;> omega
theorem imin_le {a b : Int} : imin a b ≤ a ∧ imin a b ≤ b := by unfold imin; split <;> omega
theorem imax_cases {a b : Int} : imax a b = a ∨ imax a b = b := by unfold imax; split <;> simp
theorem mxL_ge {s : Nat → Nat → Int} : ∀ {n i : Nat}, i < n → s i 0 ≤ mxL s n
 | n + 1, i, h => by
   have := imax_ge (a := mxL s n) (b := s n 0)
   show s i 0 ≤ imax (mxL s n) (s n 0)
   by_cases e : i = n
   · subst e; omega
   · have := mxL_ge (s := s) (n := n) (i := i) (by omega); omega
theorem mnH_le {s : Nat → Nat → Int} : ∀ {n i : Nat}, i < n → mnH s n ≤ s i 1
 | n + 1, i, h => by
   have := imin_le (a := mnH s n) (b := s n 1)
   show imin (mnH s n) (s n 1) ≤ s i 1
   by_cases e : i = n
   · subst e; omega
   · have := mnH_le (s := s) (n := n) (i := i) (by omega); omega
theorem lots_len {s : Nat → Nat → Int} : ∀ {i : Nat}, 1 ≤ (lotsL s i).length ∧ (lotsL s i).length ≤ i + 1 ∧ (lotsL s i).getD 0 0 = 0
 | 0 => ⟨Nat.le_refl _, Nat.le_refl _, rfl⟩
 | i + 1 => by
   obtain ⟨a, b, c⟩ := lots_len (s := s) (i := i)
   unfold lotsL
   split
   · exact ⟨a, by omega, c⟩
   · refine ⟨by simp, by simp; omega, ?_⟩
     rw [List.getD_eq_getElem?_getD, List.getElem?_append_left (by omega), ← List.getD_eq_getElem?_getD]; exact c
theorem lastI_snoc {l : List Int} {a : Int} : lastI (l ++ [a]) = a := by
 unfold lastI; simp
theorem getD_snoc_lt {l : List Int} {a : Int} {k : Nat} (h : k < l.length) : (l ++ [a]).getD k 0 = l.getD k 0 := by
 rw [List.getD_eq_getElem?_getD, List.getElem?_append_left h, ← List.getD_eq_getElem?_getD]
theorem getD_snoc_eq {l : List Int} {a : Int} : (l ++ [a]).getD l.length 0 = a := by simp
structure LotsTo (s : Nat → Nat → Int) (l : List Int) (i : Nat) : Prop where
 one : 1 ≤ l.length
 fst : l.getD 0 0 = 0
 nn : ∀ k, k < l.length → 0 ≤ l.getD k 0
 lt : 0 < i → lastI l < i
 z : i = 0 → lastI l = 0
 up : ∀ k, k + 1 < l.length → l.getD k 0 < l.getD (k + 1) 0
 al : ∀ k, k + 1 < l.length → alikeB ((l.getD (k + 1) 0).toNat - (l.getD k 0).toNat) (cutS s (l.getD k 0).toNat) = true
 las : 0 < i → alikeB (i - (lastI l).toNat) (cutS s (lastI l).toNat) = true
theorem alike_one {s : Nat → Nat → Int} (h : s 0 0 ≤ s 0 1) : alikeB 1 s = true := by
 unfold alikeB mxL mnH imax imin mxL mnH
 exact decide_eq_true (by split <;> split <;> omega)
theorem lots_to {s : Nat → Nat → Int} : ∀ {i : Nat}, (∀ k, k < i → s k 0 ≤ s k 1) → LotsTo s (lotsL s i) i
 | 0, _ => ⟨Nat.le_refl _, rfl, fun k hk => by have : k = 0 := by (simp [lotsL] at hk; exact hk)
                                               subst this; exact Int.le_refl 0, fun h => absurd h (by decide), fun _ => rfl, fun k hk => by simp [lotsL] at hk, fun k hk => by simp [lotsL] at hk, fun h => absurd h (by decide)⟩
 | i + 1, hs => by
   have H := lots_to (s := s) (i := i) fun k hk => hs k (by omega)
   have hl : 0 ≤ lastI (lotsL s i) := H.nn _ (by have := H.one; omega)
   have hlt : lastI (lotsL s i) < i + 1 := by
     rcases Nat.eq_zero_or_pos i with h | h
     · subst h; rw [H.z rfl]; decide
     · have := H.lt h; omega
   by_cases c : alikeB (i + 1 - (lastI (lotsL s i)).toNat) (cutS s (lastI (lotsL s i)).toNat) = true
   · have e : lotsL s (i + 1) = lotsL s i := by rw [lotsL, if_pos c]
     rw [e]
     exact ⟨H.one, H.fst, H.nn, fun _ => by omega, fun h => absurd h (by omega), H.up, H.al, fun _ => c⟩
   · have e : lotsL s (i + 1) = lotsL s i ++ [(i : Int)] := by rw [lotsL, if_neg c]
     have hi : 0 < i := by
       rcases Nat.eq_zero_or_pos i with h | h
       · exfalso
         subst h
         rw [H.z rfl] at c
         exact c (alike_one (hs 0 (by omega)))
       · exact h
     have hlast : (lotsL s i).getD ((lotsL s i).length - 1) 0 = lastI (lotsL s i) := rfl
     have h1 := H.one
     rw [e]
     refine ⟨by simp, by rw [getD_snoc_lt (by omega)]; exact H.fst, fun k hk => ?_, fun _ => by rw [lastI_snoc]; omega, fun h => absurd h (by omega), fun k hk => ?_, fun k hk => ?_, fun _ => ?_⟩
     · by_cases ck : k < (lotsL s i).length
       · rw [getD_snoc_lt ck]; exact H.nn k ck
       · obtain rfl : k = (lotsL s i).length := by simp at hk; omega
         rw [getD_snoc_eq]; omega
     · simp only [List.length_append, List.length_cons, List.length_nil] at hk
       by_cases ck : k + 1 < (lotsL s i).length
       · rw [getD_snoc_lt ck, getD_snoc_lt (by omega)]; exact H.up k ck
       · have ek : k + 1 = (lotsL s i).length := by omega
         rw [getD_snoc_lt (a := (i : Int)) (show k < (lotsL s i).length by omega), ek, getD_snoc_eq, show k = (lotsL s i).length - 1 by omega, hlast]
         exact H.lt hi
     · simp only [List.length_append, List.length_cons, List.length_nil] at hk
       by_cases ck : k + 1 < (lotsL s i).length
       · rw [getD_snoc_lt ck, getD_snoc_lt (by omega)]; exact H.al k ck
       · have ek : k + 1 = (lotsL s i).length := by omega
         rw [getD_snoc_lt (a := (i : Int)) (show k < (lotsL s i).length by omega), ek, getD_snoc_eq, show k = (lotsL s i).length - 1 by omega, hlast]
         exact H.las hi
     · rw [lastI_snoc]
       have e2 : i + 1 - ((i : Int)).toNat = 1 := by omega
       rw [e2]
       refine alike_one ?_
       show s (0 + ((i : Int)).toNat) 0 ≤ s (0 + ((i : Int)).toNat) 1
       rw [show 0 + ((i : Int)).toNat = i by omega]
       exact hs i (by omega)
theorem loads_iff {n : Nat} {s : Nat → Nat → Int} (h : loadsOk n s = true) : (1 ≤ n ∧ n ≤ 40) ∧ ∀ k, k < n → 0 ≤ s k 0 ∧ s k 0 ≤ s k 1 ∧ s k 1 ≤ 1000 := by
 unfold loadsOk at h
 rw [Bool.and_eq_true, within_iff, allB_iff] at h
 refine ⟨by omega, fun k hk => ?_⟩
 have := h.2 k hk
 simp only [ldBad, Bool.not_eq_true', Bool.or_eq_false_iff, decide_eq_false_iff_not] at this
 omega
theorem lots_are {n : Nat} {s : Nat → Nat → Int} (h : loadsOk n s = true) : areLots n s (lotsL s n).length (fun k => (lotsL s n).getD k 0) = true := by
 obtain ⟨⟨n1, n2⟩, hs⟩ := loads_iff h
 have H := lots_to (s := s) (i := n) fun k hk => (hs k hk).2.1
 have h1 := H.one
 unfold areLots
 rw [Bool.and_eq_true, Bool.and_eq_true, allB_iff]
 refine ⟨⟨decide_eq_true (by omega), decide_eq_true H.fst⟩, fun k hk => ?_⟩
 have top : ∀ d, d < (lotsL s n).length → (lotsL s n).getD ((lotsL s n).length - 1 - d) 0 + d ≤ lastI (lotsL s n) := by
   intro d
   induction d with
   | zero => intro _; show (lotsL s n).getD ((lotsL s n).length - 1) 0 + (0 : Nat) ≤ (lotsL s n).getD ((lotsL s n).length - 1) 0; omega
   | succ d ih =>
     intro hd
     have a := ih (by omega)
     have b := H.up ((lotsL s n).length - 1 - (d + 1)) (by omega)
     rw [show (lotsL s n).length - 1 - (d + 1) + 1 = (lotsL s n).length - 1 - d by omega] at b
     omega
 have hln := H.lt (by omega)
 unfold lotOk
 rw [Bool.and_eq_true, within_iff]
 by_cases c : k + 1 < (lotsL s n).length
 · have e : toI n (lotsL s n).length (fun k => (lotsL s n).getD k 0) k = (lotsL s n).getD (k + 1) 0 := if_pos c
   rw [e]
   have u := H.up k c
   have t := top ((lotsL s n).length - 1 - (k + 1)) (by omega)
   rw [show (lotsL s n).length - 1 - ((lotsL s n).length - 1 - (k + 1)) = k + 1 by omega] at t
   exact ⟨⟨by show (lotsL s n).getD k 0 + 1 ≤ _; omega, by omega⟩, H.al k c⟩
 · have e : toI n (lotsL s n).length (fun k => (lotsL s n).getD k 0) k = n := if_neg c
   have ek : k = (lotsL s n).length - 1 := by omega
   have el : (lotsL s n).getD k 0 = lastI (lotsL s n) := by rw [ek]; rfl
   rw [e]
   show (((lotsL s n).getD k 0 + 1 ≤ (n : Int)) ∧ (n : Int) ≤ n) ∧ alikeB ((n : Int).toNat - ((lotsL s n).getD k 0).toNat) (cutS s ((lotsL s n).getD k 0).toNat) = true
   rw [el]
   refine ⟨⟨by omega, Int.le_refl _⟩, ?_⟩
   have := H.las (by omega)
   rw [show ((n : Int)).toNat = n by omega]
   exact this
end Bm
namespace Go.Proofs.Ytpigkgoooekcgaa
open Go Go.Sx Bm
set_option maxRecDepth 100000
theorem q30 (x : sIn.α) : CallQ Try.prog E0 30 (sIn.arg x) (sIn.res x) := by
 refine bare_all E0_ok [] SigsOk.nil [] EvensOk.nil runs [] [] [] [] (fuel := 5) ?_
 refine of_red (q := (decide (x.snd.fst≤x.fst) = true→True∧decide (x.fst≤x.snd.snd) = within x.fst x.snd.fst x.snd.snd)∧(decide (x.snd.fst≤x.fst) = false→True∧within x.fst x.snd.fst x.snd.snd = false)) (by kernel_rfl) ?_
 simp [within]
 try omega
theorem allB_no {n i : Nat} {p : Nat → Bool} (hi : i < n) (h : p i = false) : allB n p = false := by
 cases e : allB n p with
 | false => rfl
 | true => have := allB_iff.1 e i hi; rw [h] at this; cases this
def sBad : Sig := ⟨Int × Int, fun x => [spanTV x.1 x.2], fun _ => True, fun x => [.v (.c (.bool (ldBad x.1 x.2)))]⟩
theorem q55 (x : sBad.α) : CallQ Try.prog E0 55 (sBad.arg x) (sBad.res x) := by
 refine bare_say E0_ok [] SigsOk.nil [] EvensOk.nil runs {} (fuel := 5) ?_
 refine of_red (q := (decide (x.fst < (0 : Int)) = true→True∧ldBad x.fst x.snd = true)∧(decide (x.fst < (0 : Int)) = false→(decide (x.snd < x.fst) = true→True∧ldBad x.fst x.snd = true)∧(decide (x.snd < x.fst) = false→True∧decide ((1000 : Int) < x.snd) = ldBad x.fst x.snd))) (by kernel_rfl) ?_
 simp only [true_and, and_true, inR, Prod.exists, Prod.forall, and_assoc, exists_and_left, exists_eq_left', exists_eq_left, forall_eq, exists_const, forall_const, loopN, loopM, fa2, fas, fas2, dup1, dup2, dup3, dup4, ite_true, exhs, exhn, exhz, exho, exA, ex1, ex2, ex3, ex4, ex5, beqI, bneI, decide_true, Bool.true_and, decide_eq_true_eq, decide_eq_false_iff_not, ne_eq, Decidable.not_not]
 unfold ldBad
 exact ⟨fun a => by simp [a], fun a => ⟨fun b => by simp [b], fun b => by simp [a, b]⟩⟩
def TH0 : List (Nat × Sig) := (55, sBad) :: (30, sIn) :: TA
theorem TH0_ok : SigsOk Try.prog E0 TH0 := (TA_ok.cons (runs 30 (by kernel_rfl)) fun x _ => q30 x).cons (runs 55 (by kernel_rfl)) fun x _ => q55 x
structure SpsIn where
 n : Nat
 s : Nat → Nat → Int
def sLoads : Sig := ⟨SpsIn, fun x => [.c (spansCV x.n x.s)], fun x => x.n < 4611686018427387904, fun x => [.v (.c (.bool (loadsOk x.n x.s)))]⟩
def aLd (n : Nat) (s : Nat → Nat → Int) : Ann := { G := Nat, ok := fun _ i => i ≤ n ∧ allB i (fun k => !ldBad (s k 0) (s k 1)) = true, dom := fun _ => [], tm := fun _ i => [(8, .t (intC i))], hp := fun _ _ => [], mu := fun _ i => n - i }
theorem q26 (x : sLoads.α) (h : sLoads.pre x) : CallQ Try.prog E0 26 (sLoads.arg x) (sLoads.res x) := by
 obtain ⟨n, s⟩ := x
 refine bare_say E0_ok TH0 TH0_ok [] EvensOk.nil runs { l := [(77, 2, aLd n s)] } (fuel := 7) ?_
 refine of_red (q := ∃ (x : Int × Int × Int), ((True∧(↑n : Int) = x.fst)∧(True∧(1 : Int) = x.snd.fst)∧(True∧(40 : Int) = x.snd.snd)∧True)∧True∧(within x.fst x.snd.fst x.snd.snd = true→(∃ (g : Nat), (g≤n∧(allB g fun (k : Nat) => !ldBad (s k (0 : Nat)) (s k (1 : Nat))) = true)∧True∧((True∧(0 : Int) = (↑g : Int))∧True)∧True)∧∀ (g : Nat), g≤n∧(allB g fun (k : Nat) => !ldBad (s k (0 : Nat)) (s k (1 : Nat))) = true→(decide ((↑g : Int) < (↑n : Int)) = true→(0 : Int)≤(↑g : Int)∧(↑g : Int) < (↑n : Int)∧∃ (x : Int × Int), ((True∧(True∧True∧s g 0 = x.fst)∧True∧s g 1 = x.snd)∧True)∧True∧(ldBad x.fst x.snd = true→True∧(!decide ((0 : Int)≤(↑g : Int))) = loadsOk n s)∧(ldBad x.fst x.snd = false→inRange IntKind.i64 ((↑g : Int) + (1 : Int))∧∃ (g' : Nat), (g'≤n∧(allB g' fun (k : Nat) => !ldBad (s k (0 : Nat)) (s k (1 : Nat))) = true)∧n - g' < n - g∧True∧((True∧(↑g : Int) + (1 : Int) = (↑g' : Int))∧True)∧True))∧(decide ((↑g : Int) < (↑n : Int)) = false→True∧(!decide ((0 : Int)≤(-1 : Int))) = loadsOk n s))∧(within x.fst x.snd.fst x.snd.snd = false→True∧loadsOk n s = false)) (by kernel_rfl) ?_
 simp only [true_and, and_true, inR, Prod.exists, Prod.forall, and_assoc, exists_and_left, exists_eq_left', exists_eq_left, forall_eq, exists_const, forall_const, loopN, loopM, fa2, fas, fas2, dup1, dup2, dup3, dup4, ite_true, exhs, exhn, exhz, exho, exA, ex1, ex2, ex3, ex4, ex5, beqI, bneI, decide_true, Bool.true_and, decide_eq_true_eq, decide_eq_false_iff_not, ne_eq, Decidable.not_not]
 have h : n < 4611686018427387904 := h
 refine ⟨fun w => ⟨Nat.zero_le _, rfl, fun g hg hb => ⟨by omega, by omega, fun h => ?_, fun h => ⟨by omega, by omega, by omega, ?_, by omega⟩⟩, fun hb => ?_⟩, fun w => ?_⟩
 · have e : allB n (fun k => !ldBad (s k 0) (s k 1)) = false := allB_no hg (by show (!ldBad (s g 0) (s g 1)) = false; rw [h]; rfl)
   unfold loadsOk
   rw [e, Bool.and_false, decide_eq_true (by omega)]; rfl
 · show (allB g (fun k => !ldBad (s k 0) (s k 1)) && !ldBad (s g 0) (s g 1)) = true
   rw [hb, h]; rfl
 · unfold loadsOk
   rw [w, hb]; rfl
 · unfold loadsOk
   rw [w]; rfl
def sAl : Sig := ⟨SpsIn, fun x => [.c (spansCV x.n x.s)], fun x => 0 < x.n ∧ x.n < 4611686018427387904, fun x => [.v (.c (.bool (alikeB x.n x.s)))]⟩
def aAl (n : Nat) (s : Nat → Nat → Int) : Ann := { G := Nat, ok := fun _ i => i ≤ n, dom := fun st => [osN (st.tm 3)], tm := fun _ i => [(11, .t (intC i))], hp := fun st i => [(osN (st.tm 3), .self, some (.box 2 (fun j => .int .i64 (if j = 0 then mxL s i else mnH s i))))], mu := fun _ i => n - i }
theorem q27 (x : sAl.α) (h : sAl.pre x) : CallQ Try.prog E0 27 (sAl.arg x) (sAl.res x) := by
 obtain ⟨n, s⟩ := x
 refine bare_say E0_ok TH0 TH0_ok [] EvensOk.nil runs { l := [(27, 3, aAl n s)] } (fuel := 5) ?_
 refine of_red (q := (0 : Int)≤(0 : Int)∧(0 : Int) < (↑n : Int)∧(∃ (g : Nat), g≤n∧True∧((True∧(0 : Int) = (↑g : Int))∧True)∧(True∧(True∧True∧s (0 : Nat) 0 = mxL s g)∧True∧s (0 : Nat) 1 = mnH s g)∧True)∧∀ (g : Nat), g≤n→(decide ((↑g : Int) < (↑n : Int)) = true→(0 : Int)≤(↑g : Int)∧(↑g : Int) < (↑n : Int)∧inRange IntKind.i64 ((↑g : Int) + (1 : Int))∧∃ (g' : Nat), g'≤n∧n - g' < n - g∧True∧((True∧(↑g : Int) + (1 : Int) = (↑g' : Int))∧True)∧(True∧(True∧True∧imax (mxL s g) (s g (0 : Nat)) = mxL s g')∧True∧imin (mnH s g) (s g ((0 : Nat) + (nat_lit 0 + (1 : Nat)))) = mnH s g')∧True)∧(decide ((↑g : Int) < (↑n : Int)) = false→True∧decide (mxL s g≤mnH s g) = alikeB n s)) (by kernel_rfl) ?_
 simp only [true_and, and_true, inR, Prod.exists, Prod.forall, and_assoc, exists_and_left, exists_eq_left', exists_eq_left, forall_eq, exists_const, forall_const, loopN, loopM, fa2, fas, fas2, dup1, dup2, dup3, dup4, ite_true, exhs, exhn, exhz, exho, exA, ex1, ex2, ex3, ex4, ex5, beqI, bneI, decide_true, Bool.true_and, decide_eq_true_eq, decide_eq_false_iff_not, ne_eq, Decidable.not_not]
 obtain ⟨h0, h⟩ : 0 < n ∧ n < 4611686018427387904 := h
 exact ⟨Int.le_refl 0, by omega, ⟨0, Nat.zero_le _, rfl, rfl, rfl⟩, fun g hg => ⟨by omega, by omega, by omega, by omega, g + 1, by omega, by omega, by omega, rfl, rfl⟩, rfl⟩
def TH1 : List (Nat × Sig) := (27, sAl) :: (26, sLoads) :: TH0
theorem TH1_ok : SigsOk Try.prog E0 TH1 := (TH0_ok.cons (runs 26 (by kernel_rfl)) q26).cons (runs 27 (by kernel_rfl)) q27
def lotsN (n : Nat) (s : Nat → Nat → Int) : Nat := if loadsOk n s then (lotsL s n).length else 0
def sLots : Sig := ⟨SpsIn, fun x => [.c (spansCV x.n x.s)], fun x => x.n < 4611686018427387904, fun x => [.v (.c (intsCV (lotsN x.n x.s) (fun k => (lotsL x.s x.n).getD k 0))), .v (intC (if loadsOk x.n x.s then 0 else 43))]⟩
def aLots (n : Nat) (s : Nat → Nat → Int) : Ann := { G := Nat, ok := fun _ i => i ≤ n, dom := fun st => [osN (st.tm 4), st.nx], tm := fun st i => [(4, .t (.c (.os st.nx 1 (lotsL s i).length))), (12, .t (intC i))], hp := fun st i => [(osN (st.tm 4), .self, none), (st.nx, .slot 4, some (.row 3 1 (lotsL s i).length (fun k _ => .int .i64 ((lotsL s i).getD k 0))))], mu := fun _ i => n - i }
theorem exSp {n : Nat} {s : Nat → Nat → Int} {R : SpsIn → Prop} (h : R ⟨n, s⟩) : ∃ x : SpsIn, n = x.n ∧ (∀ i, i < n → s i 0 = x.s i 0 ∧ s i 1 = x.s i 1) ∧ R x := ⟨⟨n, s⟩, rfl, fun _ _ => ⟨rfl, rfl⟩, h⟩
theorem exCut {n a : Nat} {s : Nat → Nat → Int} {R : SpsIn → Prop} (h : R ⟨n, cutS s a⟩) : ∃ x : SpsIn, n = x.n ∧ (∀ i, i < n → s (i + a) 0 = x.s i 0 ∧ s (i + a) 1 = x.s i 1) ∧ R x := ⟨⟨n, cutS s a⟩, rfl, fun _ _ => ⟨rfl, rfl⟩, h⟩
theorem q6 (x : sLots.α) (h : sLots.pre x) : CallQ Try.prog E0 6 (sLots.arg x) (sLots.res x) := by
 obtain ⟨n, s⟩ := x
 refine bare_say E0_ok TH1 TH1_ok [] EvensOk.nil runs { l := [(6, 5, aLots n s)] } (fuel := 5) ?_
 refine of_red (q := ∃ (x : SpsIn), ((True∧True∧n = x.n∧∀ (i : Nat), i < n→(True∧s i 0 = x.s i 0)∧s i 1 = x.s i 1)∧True)∧x.n < (4611686018427387904 : Nat)∧((!loadsOk x.n x.s) = true→(True∧lotsN n s = (0 : Nat))∧(True∧(43 : Int) = if loadsOk n s = true then (0 : Int) else (43 : Int))∧True)∧((!loadsOk x.n x.s) = false→(∃ (g : Nat), g≤n∧True∧((True∧True∧(1 : Nat) = (lotsL s g).length)∧(True∧(0 : Int) = (↑g : Int))∧True)∧(True∧True∧(1 : Nat) = (lotsL s g).length∧∀ (i : Nat), i < (1 : Nat)→True∧(if i = (0 : Nat) then (0 : Int) else (0 : Int)) = (lotsL s g).getD i (0 : Int))∧True)∧∀ (g : Nat), g≤n→(decide ((↑g : Int) < (↑n : Int)) = true→inRange IntKind.i64 ((↑(lotsL s g).length : Int) - (1 : Int))∧(0 : Int)≤(↑(lotsL s g).length : Int) - (1 : Int)∧(↑(lotsL s g).length : Int) - (1 : Int) < (↑(lotsL s g).length : Int)∧inRange IntKind.i64 ((↑g : Int) + (1 : Int))∧(0 : Int)≤(lotsL s g).getD ((↑(lotsL s g).length : Int) - (1 : Int)).toNat (0 : Int)∧(lotsL s g).getD ((↑(lotsL s g).length : Int) - (1 : Int)).toNat (0 : Int)≤(↑g : Int) + (1 : Int)∧(↑g : Int) + (1 : Int)≤(↑n : Int)∧∃ (x : SpsIn), ((True∧True∧((↑g : Int) + (1 : Int)).toNat - ((lotsL s g).getD ((↑(lotsL s g).length : Int) - (1 : Int)).toNat (0 : Int)).toNat = x.n∧∀ (i : Nat), i < ((↑g : Int) + (1 : Int)).toNat - ((lotsL s g).getD ((↑(lotsL s g).length : Int) - (1 : Int)).toNat (0 : Int)).toNat→(True∧s (i + ((lotsL s g).getD ((↑(lotsL s g).length : Int) - (1 : Int)).toNat (0 : Int)).toNat) 0 = x.s i 0)∧s (i + ((lotsL s g).getD ((↑(lotsL s g).length : Int) - (1 : Int)).toNat (0 : Int)).toNat) 1 = x.s i 1)∧True)∧((0 : Nat) < x.n∧x.n < (4611686018427387904 : Nat))∧((!alikeB x.n x.s) = true→((lotsL s g).length + (1 : Nat)) * (8 : Nat)≤(140737488355328 : Nat)∧(lotsL s g).length + (1 : Nat) < (4611686018427387904 : Nat)∧inRange IntKind.i64 ((↑g : Int) + (1 : Int))∧∃ (g' : Nat), g'≤n∧n - g' < n - g∧True∧((True∧True∧(lotsL s g).length + (1 : Nat) = (lotsL s g').length)∧(True∧(↑g : Int) + (1 : Int) = (↑g' : Int))∧True)∧(True∧True∧(lotsL s g).length + (1 : Nat) = (lotsL s g').length∧∀ (i : Nat), i < (lotsL s g).length + (1 : Nat)→True∧(if i < (lotsL s g).length then (lotsL s g).getD i (0 : Int) else if i - (lotsL s g).length = (0 : Nat) then (↑g : Int) else (0 : Int)) = (lotsL s g').getD i (0 : Int))∧True)∧((!alikeB x.n x.s) = false→inRange IntKind.i64 ((↑g : Int) + (1 : Int))∧∃ (g' : Nat), g'≤n∧n - g' < n - g∧True∧((True∧True∧(lotsL s g).length = (lotsL s g').length)∧(True∧(↑g : Int) + (1 : Int) = (↑g' : Int))∧True)∧(True∧True∧(lotsL s g).length = (lotsL s g').length∧∀ (i : Nat), i < (lotsL s g).length→True∧(lotsL s g).getD i (0 : Int) = (lotsL s g').getD i (0 : Int))∧True))∧(decide ((↑g : Int) < (↑n : Int)) = false→(0 : Int)≤(0 : Int)∧(0 : Int)≤(↑(lotsL s g).length : Int)∧(↑(lotsL s g).length : Int)≤(↑(lotsL s g).length : Int)∧(↑(lotsL s g).length : Int)≤(↑(lotsL s g).length : Int)∧(True∧True∧(lotsL s g).length - (0 : Nat) = lotsN n s∧∀ (i : Nat), i < (lotsL s g).length - (0 : Nat)→True∧(lotsL s g).getD i (0 : Int) = (lotsL s n).getD i (0 : Int))∧(True∧(0 : Int) = if loadsOk n s = true then (0 : Int) else (43 : Int))∧True))) (by kernel_rfl) ?_
 simp only [true_and, and_true, inR, Prod.exists, Prod.forall, and_assoc, exists_and_left, exists_eq_left', exists_eq_left, forall_eq, exists_const, forall_const, loopN, loopM, fa2, fas, fas2, dup1, dup2, dup3, dup4, ite_true, exhs, exhn, exhz, exho, exA, ex1, ex2, ex3, ex4, ex5, beqI, bneI, decide_true, Bool.true_and, decide_eq_true_eq, decide_eq_false_iff_not, ne_eq, Decidable.not_not]
 have h : n < 4611686018427387904 := h
 refine exSp ⟨h, fun hb => ?_, fun hb => ?_⟩
 · have hb : loadsOk n s = false := by simpa using hb
   unfold lotsN
   rw [hb]
   exact ⟨rfl, rfl⟩
 have hb : loadsOk n s = true := by simpa using hb
 obtain ⟨⟨n1, n2⟩, hs⟩ := loads_iff hb
 refine ⟨⟨0, Nat.zero_le _, rfl, rfl, rfl, fun i hi => ?_⟩, fun g hg => ?_, Int.le_refl 0, by omega, Int.le_refl _, Int.le_refl _, ?_, fun _ _ => trivial, ?_⟩
 · obtain rfl : i = 0 := by omega
   rfl
 · have H := lots_to (s := s) (i := g) fun k hk => (hs k (by omega)).2.1
   obtain ⟨l1, l2, l3⟩ := lots_len (s := s) (i := g)
   have e : (((lotsL s g).length : Int) - 1).toNat = (lotsL s g).length - 1 := by omega
   have hlast : (lotsL s g).getD ((lotsL s g).length - 1) 0 = lastI (lotsL s g) := rfl
   have la0 : 0 ≤ lastI (lotsL s g) := H.nn _ (by omega)
   have la1 : lastI (lotsL s g) ≤ g := by
     rcases Nat.eq_zero_or_pos g with h0 | h0
     · rw [H.z h0]; omega
     · have := H.lt h0; omega
   rw [e, hlast, show ((g : Int) + 1).toNat = g + 1 by omega]
   refine ⟨by omega, by omega, by omega, by omega, by omega, by omega, la0, by omega, by omega, exCut ⟨by show 0 < g + 1 - (lastI (lotsL s g)).toNat; omega, by show g + 1 - (lastI (lotsL s g)).toNat < _; omega, fun ha => ?_, fun ha => ?_⟩⟩
   · have ha : alikeB (g + 1 - (lastI (lotsL s g)).toNat) (cutS s (lastI (lotsL s g)).toNat) = false := by simpa using ha
     have e2 : lotsL s (g + 1) = lotsL s g ++ [(g : Int)] := by rw [lotsL, if_neg (by rw [ha]; decide)]
     refine ⟨by omega, by omega, by omega, by omega, g + 1, by omega, by omega, ?_, by omega, ?_, fun i hi => ?_⟩
     · rw [e2]; simp
     · rw [e2]; simp
     · rw [e2]
       by_cases c : i < (lotsL s g).length
       · rw [if_pos c, getD_snoc_lt c]
       · obtain rfl : i = (lotsL s g).length := by omega
         rw [if_neg c, getD_snoc_eq, if_pos (by omega)]
   · have ha : alikeB (g + 1 - (lastI (lotsL s g)).toNat) (cutS s (lastI (lotsL s g)).toNat) = true := by simpa using ha
     have e2 : lotsL s (g + 1) = lotsL s g := by rw [lotsL, if_pos ha]
     exact ⟨by omega, by omega, g + 1, by omega, by omega, by rw [e2], by omega, by rw [e2], fun i hi => by rw [e2]⟩
 · unfold lotsN
   rw [if_pos hb]; rfl
 · rw [if_pos hb]
structure AreIn where
 n : Nat
 s : Nat → Nat → Int
 m : Nat
 f : Nat → Int
def sAre : Sig := ⟨AreIn, fun x => [.c (spansCV x.n x.s), .c (intsCV x.m x.f)], fun x => x.n < 4611686018427387904 ∧ x.m < 4611686018427387904 ∧ ∀ k, k < x.m → 0 ≤ x.f k ∧ x.f k ≤ 1000, fun x => [.v (.c (.bool (loadsOk x.n x.s && areLots x.n x.s x.m x.f))), .v (intC (if loadsOk x.n x.s then 0 else 43))]⟩
def aAre (n : Nat) (s : Nat → Nat → Int) (m : Nat) (f : Nat → Int) : Ann := { G := Nat, ok := fun _ i => i ≤ m ∧ allB i (lotOk n s m f) = true, dom := fun _ => [], tm := fun _ i => [(23, .t (intC i))], hp := fun _ _ => [], mu := fun _ i => m - i }
theorem q8 (x : sAre.α) (h : sAre.pre x) : CallQ Try.prog E0 8 (sAre.arg x) (sAre.res x) := by
 obtain ⟨n, s, m, f⟩ := x
 refine bare_say E0_ok TH1 TH1_ok [] EvensOk.nil runs { l := [(8, 6, aAre n s m f)] } (fuel := 5) ?_
 refine of_red (q := ∃ (x : SpsIn), ((True∧True∧n = x.n∧∀ (i : Nat), i < n→(True∧s i 0 = x.s i 0)∧s i 1 = x.s i 1)∧True)∧x.n < (4611686018427387904 : Nat)∧((!loadsOk x.n x.s) = true→(True∧(loadsOk n s && areLots n s m f) = false)∧(True∧(43 : Int) = if loadsOk n s = true then (0 : Int) else (43 : Int))∧True)∧((!loadsOk x.n x.s) = false→(((↑m : Int) == (0 : Int)) = true→(True∧(loadsOk n s && areLots n s m f) = false)∧(True∧(0 : Int) = if loadsOk n s = true then (0 : Int) else (43 : Int))∧True)∧(((↑m : Int) == (0 : Int)) = false→(0 : Int)≤(0 : Int)∧(0 : Int) < (↑m : Int)∧((f (0 : Nat) != (0 : Int)) = true→(True∧(loadsOk n s && areLots n s m f) = false)∧(True∧(0 : Int) = if loadsOk n s = true then (0 : Int) else (43 : Int))∧True)∧((f (0 : Nat) != (0 : Int)) = false→(∃ (g : Nat), (g≤m∧allB g (lotOk n s m f) = true)∧True∧((True∧(0 : Int) = (↑g : Int))∧True)∧True)∧∀ (g : Nat), g≤m∧allB g (lotOk n s m f) = true→(decide ((↑g : Int) < (↑m : Int)) = true→(0 : Int)≤(↑g : Int)∧(↑g : Int) < (↑m : Int)∧inRange IntKind.i64 ((↑g : Int) + (1 : Int))∧(decide ((↑g : Int) + (1 : Int) < (↑m : Int)) = true→inRange IntKind.i64 ((↑g : Int) + (1 : Int))∧(0 : Int)≤(↑g : Int) + (1 : Int)∧(↑g : Int) + (1 : Int) < (↑m : Int)∧inRange IntKind.i64 (f g + (1 : Int))∧∃ (x : Int × Int × Int), ((True∧f ((↑g : Int) + (1 : Int)).toNat = x.fst)∧(True∧f g + (1 : Int) = x.snd.fst)∧(True∧(↑n : Int) = x.snd.snd)∧True)∧True∧((!within x.fst x.snd.fst x.snd.snd) = true→(True∧(loadsOk n s && areLots n s m f) = false)∧(True∧(0 : Int) = if loadsOk n s = true then (0 : Int) else (43 : Int))∧True)∧((!within x.fst x.snd.fst x.snd.snd) = false→(0 : Int)≤f g∧f g≤f ((↑g : Int) + (1 : Int)).toNat∧f ((↑g : Int) + (1 : Int)).toNat≤(↑n : Int)∧∃ (x : SpsIn), ((True∧True∧(f ((↑g : Int) + (1 : Int)).toNat).toNat - (f g).toNat = x.n∧∀ (i : Nat), i < (f ((↑g : Int) + (1 : Int)).toNat).toNat - (f g).toNat→(True∧s (i + (f g).toNat) 0 = x.s i 0)∧s (i + (f g).toNat) 1 = x.s i 1)∧True)∧((0 : Nat) < x.n∧x.n < (4611686018427387904 : Nat))∧((!alikeB x.n x.s) = true→(True∧(loadsOk n s && areLots n s m f) = false)∧(True∧(0 : Int) = if loadsOk n s = true then (0 : Int) else (43 : Int))∧True)∧((!alikeB x.n x.s) = false→inRange IntKind.i64 ((↑g : Int) + (1 : Int))∧∃ (g' : Nat), (g'≤m∧allB g' (lotOk n s m f) = true)∧m - g' < m - g∧True∧((True∧(↑g : Int) + (1 : Int) = (↑g' : Int))∧True)∧True)))∧(decide ((↑g : Int) + (1 : Int) < (↑m : Int)) = false→inRange IntKind.i64 (f g + (1 : Int))∧∃ (x : Int × Int × Int), ((True∧(↑n : Int) = x.fst)∧(True∧f g + (1 : Int) = x.snd.fst)∧(True∧(↑n : Int) = x.snd.snd)∧True)∧True∧((!within x.fst x.snd.fst x.snd.snd) = true→(True∧(loadsOk n s && areLots n s m f) = false)∧(True∧(0 : Int) = if loadsOk n s = true then (0 : Int) else (43 : Int))∧True)∧((!within x.fst x.snd.fst x.snd.snd) = false→(0 : Int)≤f g∧f g≤(↑n : Int)∧(↑n : Int)≤(↑n : Int)∧∃ (x : SpsIn), ((True∧True∧n - (f g).toNat = x.n∧∀ (i : Nat), i < n - (f g).toNat→(True∧s (i + (f g).toNat) 0 = x.s i 0)∧s (i + (f g).toNat) 1 = x.s i 1)∧True)∧((0 : Nat) < x.n∧x.n < (4611686018427387904 : Nat))∧((!alikeB x.n x.s) = true→(True∧(loadsOk n s && areLots n s m f) = false)∧(True∧(0 : Int) = if loadsOk n s = true then (0 : Int) else (43 : Int))∧True)∧((!alikeB x.n x.s) = false→inRange IntKind.i64 ((↑g : Int) + (1 : Int))∧∃ (g' : Nat), (g'≤m∧allB g' (lotOk n s m f) = true)∧m - g' < m - g∧True∧((True∧(↑g : Int) + (1 : Int) = (↑g' : Int))∧True)∧True))))∧(decide ((↑g : Int) < (↑m : Int)) = false→(True∧(loadsOk n s && areLots n s m f) = true)∧(True∧(0 : Int) = if loadsOk n s = true then (0 : Int) else (43 : Int))∧True))))) (by kernel_rfl) ?_
 simp only [true_and, and_true, inR, Prod.exists, Prod.forall, and_assoc, exists_and_left, exists_eq_left', exists_eq_left, forall_eq, exists_const, forall_const, loopN, loopM, fa2, fas, fas2, dup1, dup2, dup3, dup4, ite_true, exhs, exhn, exhz, exho, exA, ex1, ex2, ex3, ex4, ex5, beqI, bneI, decide_true, Bool.true_and, decide_eq_true_eq, decide_eq_false_iff_not, ne_eq, Decidable.not_not]
 obtain ⟨h, h2, hf⟩ : n < 4611686018427387904 ∧ m < 4611686018427387904 ∧ ∀ k, k < m → 0 ≤ f k ∧ f k ≤ 1000 := h
 refine exSp ⟨h, fun hb => ?_, fun hb => ?_⟩
 · have hb : loadsOk n s = false := by simpa using hb
   rw [hb]; exact ⟨rfl, rfl⟩
 have hb : loadsOk n s = true := by simpa using hb
 have e0 : (0 : Int) = if loadsOk n s = true then 0 else 43 := by rw [if_pos hb]
 have bad : areLots n s m f = false → (loadsOk n s && areLots n s m f) = false ∧ (0 : Int) = if loadsOk n s = true then 0 else 43 := fun h => ⟨by rw [h, Bool.and_false], e0⟩
 have badI : ∀ g, g < m → lotOk n s m f g = false → (loadsOk n s && areLots n s m f) = false ∧ (0 : Int) = if loadsOk n s = true then 0 else 43 := fun g hg hk => bad (by unfold areLots; rw [allB_no hg hk, Bool.and_false])
 refine ⟨fun m0 => bad (by unfold areLots; rw [decide_eq_false (by omega)]; rfl), fun m0 => ⟨by omega, by omega, fun f0 => bad (by unfold areLots; rw [decide_eq_false f0, Bool.and_false]; rfl), fun f0 => ⟨Nat.zero_le _, rfl, fun g hg ha => ⟨by omega, by omega, by omega, by omega, fun c => ?_, fun c => ?_⟩, fun ha => ⟨?_, e0⟩⟩⟩⟩
 · obtain ⟨f1, f2⟩ := hf g hg
   obtain ⟨f3, f4⟩ := hf (g + 1) (by omega)
   have eg : ((g : Int) + 1).toNat = g + 1 := by omega
   have et : toI n m f g = f (g + 1) := if_pos (by omega)
   rw [eg]
   refine ⟨by omega, by omega, by omega, by omega, by omega, by omega, fun w => badI g hg ?_, fun w => ?_⟩
   · have w : within (f (g + 1)) (f g + 1) n = false := by simpa using w
     unfold lotOk; rw [et, w]; rfl
   · have w : within (f (g + 1)) (f g + 1) n = true := by simpa using w
     have w' := Bm.within_iff.1 w
     refine ⟨by omega, by omega, by omega, exCut ⟨by show 0 < (f (g + 1)).toNat - (f g).toNat; omega, by show (f (g + 1)).toNat - (f g).toNat < _; omega, fun q => badI g hg ?_, fun q => ⟨by omega, by omega, by omega, ?_, by omega⟩⟩⟩
     · have q : alikeB ((f (g + 1)).toNat - (f g).toNat) (cutS s (f g).toNat) = false := by simpa using q
       unfold lotOk; rw [et, q, Bool.and_false]
     · have q : alikeB ((f (g + 1)).toNat - (f g).toNat) (cutS s (f g).toNat) = true := by simpa using q
       show (allB g (lotOk n s m f) && lotOk n s m f g) = true
       unfold lotOk at ha ⊢; rw [ha, et, w, q]; rfl
 · obtain ⟨f1, f2⟩ := hf g hg
   have et : toI n m f g = n := if_neg (by omega)
   refine ⟨by omega, by omega, fun w => badI g hg ?_, fun w => ?_⟩
   · have w : within (n : Int) (f g + 1) n = false := by simpa using w
     unfold lotOk; rw [et, w]; rfl
   · have w : within (n : Int) (f g + 1) n = true := by simpa using w
     have w' := Bm.within_iff.1 w
     refine ⟨by omega, by omega, by omega, exCut ⟨by show 0 < n - (f g).toNat; omega, by show n - (f g).toNat < _; omega, fun q => badI g hg ?_, fun q => ⟨by omega, by omega, by omega, ?_, by omega⟩⟩⟩
     · have q : alikeB (n - (f g).toNat) (cutS s (f g).toNat) = false := by simpa using q
       unfold lotOk; rw [et, show ((n : Int)).toNat = n by omega, q, Bool.and_false]
     · have q : alikeB (n - (f g).toNat) (cutS s (f g).toNat) = true := by simpa using q
       show (allB g (lotOk n s m f) && lotOk n s m f g) = true
       unfold lotOk at ha ⊢; rw [ha, et, w, show ((n : Int)).toNat = n by omega, q]; rfl
 · unfold areLots
   rw [hb, ha, decide_eq_true (show 0 < m by omega), decide_eq_true f0]; rfl
def TH : List (Nat × Sig) := (8, sAre) :: (6, sLots) :: TH1
theorem TH_ok : SigsOk Try.prog E0 TH := (TH1_ok.cons (runs 6 (by kernel_rfl)) q6).cons (runs 8 (by kernel_rfl)) q8
end Go.Proofs.Ytpigkgoooekcgaa
namespace Go.Proofs.Ytpigkgoooekcgaa
open Go Go.Sx Bm
set_option maxRecDepth 100000
def TC : List (Nat × Sig) := TB
theorem TC_ok : SigsOk Try.prog E0 TC := TB_ok
theorem is35 : (lookFn fnTab 35).isSome = true := by kernel_rfl
theorem is36 : (lookFn fnTab 36).isSome = true := by kernel_rfl
theorem is78 : (lookFn fnTab 78).isSome = true := by kernel_rfl
theorem is60 : (lookFn fnTab 60).isSome = true := by kernel_rfl
def mapN (t : Nat) (st : St) : List (Nat × Blk) := match st.tm t with
 | .t (.c (.ptr n _)) => (match st.hp n with
   | some (.box _ g) => (match g 1 with | .mp m => [(m, .mpI MC Inv)] | _ => [])
   | _ => [])
 | _ => []
def V4 : List (Nat × ESpec) := (60, eRule) :: (35, ePlan) :: V3
theorem V4_ok : EvensOk Try.prog E0 V4 := (V3_ok.cons r35).cons r60
structure KeepIn where
 N : Nat
 o : Nat
 a : Nat
 r : Nat → Int
structure KeepIn.wf (g : KeepIn) : Prop where
 N : g.N ≤ 40
 o : g.o ≤ g.N
 a : g.a ≤ g.o
 rule : ruleOk g.N g.r = true
def eKeeps : ESpec where
 γ := KeepIn
 ok g := g.wf
 arg g := [lotTV g.N, arrTV 6 g.r, twoTV g.o g.a]
 hp _ := [(.argc 0 1, .mpI MC Inv)]
 res g := [.c (.bool (keeps g.N g.o g.a g.r))]
def aKee (t : Nat) (g : KeepIn) : Ann := { G := Nat, ok := fun _ j => j ≤ g.N + 1 ∧ allB j (keep1 g.N g.o g.a g.r) = true, dom := fun _ => [], tm := fun _ j => [(t, .t (intC j))], hp := fun _ _ => [], mu := fun _ j => g.N + 1 - j }
theorem r36n (n : Nat) (g : KeepIn) (h : eKeeps.ok g) (ms : Nat → List Int → Option Int) (hm : ∀ j T I, canonHp (eKeeps.hp g) j = some (.mpI T I) → ∀ ks x, ms j ks = some x → I ks x) : inlBody (E0.all TC ((36, { eKeeps with ok := fun g => eKeeps.ok g ∧ 0 < n }) :: V4) [(36, 2, aKee 12 g)] [] [] (wkAt 36)) (vc (E0.all TC ((36, { eKeeps with ok := fun g => eKeeps.ok g ∧ 0 < n }) :: V4) [(36, 2, aKee 12 g)] [] [] (wkAt 36)) 6) 36 (eKeeps.arg g) (openHp ms (canonHp (eKeeps.hp g))) (lenR (eKeeps.hp g)) [] (fun v hp _ _ => evenFit eKeeps g v hp) := by
 refine of_red (q := (True∧∀ (ks : List Int) (x : Int), ms (0 : Nat) ks = some x→x = cI (ks.getD (0 : Nat) (0 : Int)) (ks.getD (1 : Nat) (0 : Int)))∧inRange IntKind.i64 ((↑g.N : Int) + (1 : Int))∧(∃ (g_1 : Nat), (g_1≤g.N + (1 : Nat)∧allB g_1 (keep1 g.N g.o g.a g.r) = true)∧True∧((True∧(0 : Int) = (↑g_1 : Int))∧True)∧True)∧∀ (g_1 : Nat), g_1≤g.N + (1 : Nat)∧allB g_1 (keep1 g.N g.o g.a g.r) = true→(decide ((↑g_1 : Int) < (↑g.N : Int) + (1 : Int)) = true→(lookFn fnTab (78 : Nat)).isSome = true∧∃ (g_2 : FndIn), (g_2.N≤(40 : Nat)∧g_2.b≤g_2.N∧g_2.o≤g_2.N∧g_2.hi≤g_2.o∧g_2.lo≤g_2.hi + (1 : Nat))∧True∧((True∧(True∧True∧(↑g.N : Int) = (↑g_2.N : Int))∧True)∧(True∧(↑g_1 : Int) = (↑g_2.b : Int))∧(True∧(↑g.o : Int) = (↑g_2.o : Int))∧(True∧(0 : Int) = (↑g_2.lo : Int))∧(True∧(↑g.a : Int) = (↑g_2.hi : Int))∧True)∧((True∧∀ (ks : List Int) (x : Int), x = cI (ks.getD (0 : Nat) (0 : Int)) (ks.getD (1 : Nat) (0 : Int))→x = cI (ks.getD (0 : Nat) (0 : Int)) (ks.getD (1 : Nat) (0 : Int)))∧True)∧((True∧∀ (ks : List Int) (x : Int), x = cI (ks.getD (0 : Nat) (0 : Int)) (ks.getD (1 : Nat) (0 : Int))→x = cI (ks.getD (0 : Nat) (0 : Int)) (ks.getD (1 : Nat) (0 : Int)))∧True)∧(decide ((↑g_1 : Int)≤g.r (0 : Nat)) = true→inRange IntKind.i64 ((↑(fnd g_2.N g_2.b g_2.o g_2.lo g_2.hi) : Int) * g.r ((0 : Nat) + (nat_lit 0 + (1 : Nat)) + (nat_lit 0 + (1 : Nat))))∧inRange IntKind.i64 (g.r ((0 : Nat) + (nat_lit 0 + (1 : Nat))) * (↑(ch g_2.N g_2.o) : Int))∧inRange IntKind.i64 ((↑(fnd g_2.N g_2.b g_2.o g_2.lo g_2.hi) : Int) * g.r ((0 : Nat) + (nat_lit 0 + (1 : Nat)) + (nat_lit 0 + (1 : Nat))) - g.r ((0 : Nat) + (nat_lit 0 + (1 : Nat))) * (↑(ch g_2.N g_2.o) : Int))∧(decide ((↑(fnd g_2.N g_2.b g_2.o g_2.lo g_2.hi) : Int) * g.r ((0 : Nat) + (nat_lit 0 + (1 : Nat)) + (nat_lit 0 + (1 : Nat))) - g.r ((0 : Nat) + (nat_lit 0 + (1 : Nat))) * (↑(ch g_2.N g_2.o) : Int) < (0 : Int)) = true→((True∧∀ (ks : List Int) (x : Int), x = cI (ks.getD (0 : Nat) (0 : Int)) (ks.getD (1 : Nat) (0 : Int))→x = cI (ks.getD (0 : Nat) (0 : Int)) (ks.getD (1 : Nat) (0 : Int)))∧True)∧True∧keeps g.N g.o g.a g.r = false)∧(decide ((↑(fnd g_2.N g_2.b g_2.o g_2.lo g_2.hi) : Int) * g.r ((0 : Nat) + (nat_lit 0 + (1 : Nat)) + (nat_lit 0 + (1 : Nat))) - g.r ((0 : Nat) + (nat_lit 0 + (1 : Nat))) * (↑(ch g_2.N g_2.o) : Int) < (0 : Int)) = false→(decide (g.r ((0 : Nat) + (nat_lit 2 + (1 : Nat)))≤(↑g_1 : Int)) = true→inRange IntKind.i64 ((↑(fnd g_2.N g_2.b g_2.o g_2.lo g_2.hi) : Int) * g.r ((0 : Nat) + (nat_lit 0 + (1 : Nat)) + (nat_lit 3 + (1 : Nat))))∧inRange IntKind.i64 (g.r ((0 : Nat) + (nat_lit 3 + (1 : Nat))) * (↑(ch g_2.N g_2.o) : Int))∧inRange IntKind.i64 ((↑(fnd g_2.N g_2.b g_2.o g_2.lo g_2.hi) : Int) * g.r ((0 : Nat) + (nat_lit 0 + (1 : Nat)) + (nat_lit 3 + (1 : Nat))) - g.r ((0 : Nat) + (nat_lit 3 + (1 : Nat))) * (↑(ch g_2.N g_2.o) : Int))∧(decide ((0 : Int) < (↑(fnd g_2.N g_2.b g_2.o g_2.lo g_2.hi) : Int) * g.r ((0 : Nat) + (nat_lit 0 + (1 : Nat)) + (nat_lit 3 + (1 : Nat))) - g.r ((0 : Nat) + (nat_lit 3 + (1 : Nat))) * (↑(ch g_2.N g_2.o) : Int)) = true→((True∧∀ (ks : List Int) (x : Int), x = cI (ks.getD (0 : Nat) (0 : Int)) (ks.getD (1 : Nat) (0 : Int))→x = cI (ks.getD (0 : Nat) (0 : Int)) (ks.getD (1 : Nat) (0 : Int)))∧True)∧True∧keeps g.N g.o g.a g.r = false)∧(decide ((0 : Int) < (↑(fnd g_2.N g_2.b g_2.o g_2.lo g_2.hi) : Int) * g.r ((0 : Nat) + (nat_lit 0 + (1 : Nat)) + (nat_lit 3 + (1 : Nat))) - g.r ((0 : Nat) + (nat_lit 3 + (1 : Nat))) * (↑(ch g_2.N g_2.o) : Int)) = false→inRange IntKind.i64 ((↑g_1 : Int) + (1 : Int))∧∃ (g' : Nat), (g'≤g.N + (1 : Nat)∧allB g' (keep1 g.N g.o g.a g.r) = true)∧g.N + (1 : Nat) - g' < g.N + (1 : Nat) - g_1∧True∧((True∧(↑g_1 : Int) + (1 : Int) = (↑g' : Int))∧True)∧True))∧(decide (g.r ((0 : Nat) + (nat_lit 2 + (1 : Nat)))≤(↑g_1 : Int)) = false→inRange IntKind.i64 ((↑g_1 : Int) + (1 : Int))∧∃ (g' : Nat), (g'≤g.N + (1 : Nat)∧allB g' (keep1 g.N g.o g.a g.r) = true)∧g.N + (1 : Nat) - g' < g.N + (1 : Nat) - g_1∧True∧((True∧(↑g_1 : Int) + (1 : Int) = (↑g' : Int))∧True)∧True)))∧(decide ((↑g_1 : Int)≤g.r (0 : Nat)) = false→(decide (g.r ((0 : Nat) + (nat_lit 2 + (1 : Nat)))≤(↑g_1 : Int)) = true→inRange IntKind.i64 ((↑(fnd g_2.N g_2.b g_2.o g_2.lo g_2.hi) : Int) * g.r ((0 : Nat) + (nat_lit 0 + (1 : Nat)) + (nat_lit 3 + (1 : Nat))))∧inRange IntKind.i64 (g.r ((0 : Nat) + (nat_lit 3 + (1 : Nat))) * (↑(ch g_2.N g_2.o) : Int))∧inRange IntKind.i64 ((↑(fnd g_2.N g_2.b g_2.o g_2.lo g_2.hi) : Int) * g.r ((0 : Nat) + (nat_lit 0 + (1 : Nat)) + (nat_lit 3 + (1 : Nat))) - g.r ((0 : Nat) + (nat_lit 3 + (1 : Nat))) * (↑(ch g_2.N g_2.o) : Int))∧(decide ((0 : Int) < (↑(fnd g_2.N g_2.b g_2.o g_2.lo g_2.hi) : Int) * g.r ((0 : Nat) + (nat_lit 0 + (1 : Nat)) + (nat_lit 3 + (1 : Nat))) - g.r ((0 : Nat) + (nat_lit 3 + (1 : Nat))) * (↑(ch g_2.N g_2.o) : Int)) = true→((True∧∀ (ks : List Int) (x : Int), x = cI (ks.getD (0 : Nat) (0 : Int)) (ks.getD (1 : Nat) (0 : Int))→x = cI (ks.getD (0 : Nat) (0 : Int)) (ks.getD (1 : Nat) (0 : Int)))∧True)∧True∧keeps g.N g.o g.a g.r = false)∧(decide ((0 : Int) < (↑(fnd g_2.N g_2.b g_2.o g_2.lo g_2.hi) : Int) * g.r ((0 : Nat) + (nat_lit 0 + (1 : Nat)) + (nat_lit 3 + (1 : Nat))) - g.r ((0 : Nat) + (nat_lit 3 + (1 : Nat))) * (↑(ch g_2.N g_2.o) : Int)) = false→inRange IntKind.i64 ((↑g_1 : Int) + (1 : Int))∧∃ (g' : Nat), (g'≤g.N + (1 : Nat)∧allB g' (keep1 g.N g.o g.a g.r) = true)∧g.N + (1 : Nat) - g' < g.N + (1 : Nat) - g_1∧True∧((True∧(↑g_1 : Int) + (1 : Int) = (↑g' : Int))∧True)∧True))∧(decide (g.r ((0 : Nat) + (nat_lit 2 + (1 : Nat)))≤(↑g_1 : Int)) = false→inRange IntKind.i64 ((↑g_1 : Int) + (1 : Int))∧∃ (g' : Nat), (g'≤g.N + (1 : Nat)∧allB g' (keep1 g.N g.o g.a g.r) = true)∧g.N + (1 : Nat) - g' < g.N + (1 : Nat) - g_1∧True∧((True∧(↑g_1 : Int) + (1 : Int) = (↑g' : Int))∧True)∧True)))∧(decide ((↑g_1 : Int) < (↑g.N : Int) + (1 : Int)) = false→((True∧∀ (ks : List Int) (x : Int), x = cI (ks.getD (0 : Nat) (0 : Int)) (ks.getD (1 : Nat) (0 : Int))→x = cI (ks.getD (0 : Nat) (0 : Int)) (ks.getD (1 : Nat) (0 : Int)))∧True)∧True∧keeps g.N g.o g.a g.r = true)) (by kernel_rfl) ?_
 have hI : ∀ ks x, ms 0 ks = some x → x = cI (ks.getD 0 0) (ks.getD 1 0) := hm 0 MC Inv rfl
 obtain ⟨N, o, a, r⟩ := g
 obtain ⟨h0, h1, h2, h3⟩ := h
 have h0 : N ≤ 40 := h0
 have h1 : o ≤ N := h1
 have h2 : a ≤ o := h2
 have h3 : ruleOk N r = true := h3
 simp only [true_and, and_true, inR, Prod.exists, Prod.forall, and_assoc, exists_and_left, exists_eq_left', exists_eq_left, forall_eq, exists_const, forall_const, loopN, loopM, fa2, fas, fas2, dup1, dup2, dup3, dup4, ite_true, exhs, exhn, exhz, exho, exA, ex1, ex2, ex3, ex4, ex5, beqI, bneI, decide_true, Bool.true_and, decide_eq_true_eq, decide_eq_false_iff_not, ne_eq, Decidable.not_not]
 have rb := rule_bd h3
 have cb := ch_le (n := N) (k := o) h0
 have c0 := ch_pos (n := N) (k := o) h1
 refine ⟨hI, by omega, by omega, by omega, rfl, fun j ⟨hj, hall⟩ => ⟨fun hlt => ⟨is78, ⟨N, j, o, 0, a⟩, h0, by show j ≤ N; omega, h1, h2, Nat.zero_le _, rfl, rfl, rfl, rfl, rfl, ?_⟩, fun hge => ?_⟩⟩
 · have hlt : (j : Int) < (N : Int) + 1 := hlt
   have fb := F_le (N := N) (b := j) (o := o) (a := a) (by omega) h2
   have kf : Brk r j (F N j o a) (ch N o) → keeps N o a r = false := keeps_not (by omega)
   have kt : ¬ Brk r j (F N j o a) (ch N o) → allB (j + 1) (keep1 N o a r) = true := keeps_step hall
   simp only [fnd_F]
   generalize F N j o a = X at fb kf kt ⊢
   generalize ch N o = Y at fb cb c0 kf kt ⊢
   have p1 := prod_bd (a := X) (b := r 2) (by omega) (by omega) (by omega) (by omega)
   have p2 := prod_bd (a := Y) (b := r 1) (by omega) (by omega) (by omega) (by omega)
   have p3 := prod_bd (a := X) (b := r 5) (by omega) (by omega) (by omega) (by omega)
   have p4 := prod_bd (a := Y) (b := r 4) (by omega) (by omega) (by omega) (by omega)
   rw [Int.mul_comm] at p2 p4
   unfold Brk at kf kt
   simp only [Nat.zero_add, Nat.reduceAdd]
   generalize (X : Int) * r 2 = P1 at *
   generalize r 1 * (Y : Int) = P2 at *
   generalize (X : Int) * r 5 = P3 at *
   generalize r 4 * (Y : Int) = P4 at *
   have nxt : ¬ ((j : Int) ≤ r 0 ∧ P1 < P2 ∨ r 3 ≤ (j : Int) ∧ P4 < P3) → -9223372036854775808 ≤ (j : Int) + 1 ∧ (j : Int) + 1 ≤ 9223372036854775807 ∧ j + 1 ≤ N + 1 ∧ allB (j + 1) (keep1 N o a r) = true ∧ N + 1 - (j + 1) < N + 1 - j := fun h => ⟨by omega, by omega, by omega, kt h, by omega⟩
   exact ⟨fun c1 => ⟨by omega, by omega, by omega, by omega, by omega, by omega, fun c2 => kf (by omega), fun c2 => ⟨fun c3 => ⟨by omega, by omega, by omega, by omega, by omega, by omega, fun c4 => kf (by omega), fun c4 => nxt (by omega)⟩, fun c3 => nxt (by omega)⟩⟩, fun c1 => ⟨fun c3 => ⟨by omega, by omega, by omega, by omega, by omega, by omega, fun c4 => kf (by omega), fun c4 => nxt (by omega)⟩, fun c3 => nxt (by omega)⟩⟩
 · obtain rfl : j = N + 1 := by omega
   exact hall
theorem r36 : ∀ g, eKeeps.ok g → SemK Try.prog E0 36 eKeeps.toK g :=
 even_at E0_ok TC TC_ok V4 V4_ok runs eKeeps (fun g => [(36, 2, aKee 12 g)]) (fun g => []) [] (fun _ => wkAt 36) (fun _ => 0) (fun n g hg _ ms hm => r36n n g hg ms hm)
def sOdds : Sig := ⟨Int × Int × Int × Int, fun x => [intC x.1, intC x.2.1, twoTV x.2.2.1 x.2.2.2], fun _ => True, fun x => [.v (twoTV (oddsOf x.1 x.2.1 x.2.2.1 x.2.2.2) (oddsIn x.1 x.2.1 x.2.2.1 x.2.2.2)), .v (intC (oddsE x.1 x.2.1 x.2.2.1 x.2.2.2))]⟩
theorem q29 (x : sOdds.α) : CallQ Try.prog E0 29 (sOdds.arg x) (sOdds.res x) := by
 obtain ⟨N, b, o, a⟩ := x
 refine bare_all E0_ok TC TC_ok V4 V4_ok runs [] [] [] [(29, 4, mapN 8)] (fuel := 5) ?_
 refine of_red (q := ∃ (x : Int × Int × Int), ((True∧N = x.fst)∧(True∧(1 : Int) = x.snd.fst)∧(True∧(40 : Int) = x.snd.snd)∧True)∧True∧((!within x.fst x.snd.fst x.snd.snd) = true→(True∧(True∧True∧(0 : Int) = oddsOf N (b, o, a).fst (b, o, a).snd.fst (b, o, a).snd.snd)∧True∧(0 : Int) = oddsIn N (b, o, a).fst (b, o, a).snd.fst (b, o, a).snd.snd)∧(True∧(7 : Int) = oddsE N (b, o, a).fst (b, o, a).snd.fst (b, o, a).snd.snd)∧True)∧((!within x.fst x.snd.fst x.snd.snd) = false→∃ (x : Int × Int × Int), ((True∧b = x.fst)∧(True∧(0 : Int) = x.snd.fst)∧(True∧N = x.snd.snd)∧True)∧True∧((!within x.fst x.snd.fst x.snd.snd) = true→(True∧(True∧True∧(0 : Int) = oddsOf N (b, o, a).fst (b, o, a).snd.fst (b, o, a).snd.snd)∧True∧(0 : Int) = oddsIn N (b, o, a).fst (b, o, a).snd.fst (b, o, a).snd.snd)∧(True∧(7 : Int) = oddsE N (b, o, a).fst (b, o, a).snd.fst (b, o, a).snd.snd)∧True)∧((!within x.fst x.snd.fst x.snd.snd) = false→(True∧∀ (ks : List Int) (x : Int), none = some x→x = cI (ks.getD (0 : Nat) (0 : Int)) (ks.getD (1 : Nat) (0 : Int)))∧(lookFn fnTab (35 : Nat)).isSome = true∧∃ (g : Nat × Int × Int), g.fst≤(1000000 : Nat)∧True∧((True∧(True∧True∧N = (↑g.fst : Int))∧True)∧(True∧(True∧True∧(b, o, a).snd.fst = g.snd.fst)∧True∧(b, o, a).snd.snd = g.snd.snd)∧True)∧((True∧∀ (ks : List Int) (x : Int), x = cI (ks.getD (0 : Nat) (0 : Int)) (ks.getD (1 : Nat) (0 : Int))→x = cI (ks.getD (0 : Nat) (0 : Int)) (ks.getD (1 : Nat) (0 : Int)))∧True)∧((True∧∀ (ks : List Int) (x : Int), x = cI (ks.getD (0 : Nat) (0 : Int)) (ks.getD (1 : Nat) (0 : Int))→x = cI (ks.getD (0 : Nat) (0 : Int)) (ks.getD (1 : Nat) (0 : Int)))∧True)∧((!planOk (↑g.fst : Int) g.snd.fst g.snd.snd) = true→(True∧(True∧True∧(0 : Int) = oddsOf N (b, o, a).fst (b, o, a).snd.fst (b, o, a).snd.snd)∧True∧(0 : Int) = oddsIn N (b, o, a).fst (b, o, a).snd.fst (b, o, a).snd.snd)∧(True∧(72 : Int) = oddsE N (b, o, a).fst (b, o, a).snd.fst (b, o, a).snd.snd)∧True)∧((!planOk (↑g.fst : Int) g.snd.fst g.snd.snd) = false→(lookFn fnTab (78 : Nat)).isSome = true∧∃ (g : FndIn), (g.N≤(40 : Nat)∧g.b≤g.N∧g.o≤g.N∧g.hi≤g.o∧g.lo≤g.hi + (1 : Nat))∧True∧((True∧(True∧True∧N = (↑g.N : Int))∧True)∧(True∧b = (↑g.b : Int))∧(True∧o = (↑g.o : Int))∧(True∧(0 : Int) = (↑g.lo : Int))∧(True∧a = (↑g.hi : Int))∧True)∧((True∧∀ (ks : List Int) (x : Int), x = cI (ks.getD (0 : Nat) (0 : Int)) (ks.getD (1 : Nat) (0 : Int))→x = cI (ks.getD (0 : Nat) (0 : Int)) (ks.getD (1 : Nat) (0 : Int)))∧True)∧((True∧∀ (ks : List Int) (x : Int), x = cI (ks.getD (0 : Nat) (0 : Int)) (ks.getD (1 : Nat) (0 : Int))→x = cI (ks.getD (0 : Nat) (0 : Int)) (ks.getD (1 : Nat) (0 : Int)))∧True)∧∃ (x : Nat × Nat), ((True∧(True∧True∧(↑(fnd g.N g.b g.o g.lo g.hi) : Int) = (↑x.fst : Int))∧True∧(↑(ch g.N g.o) : Int) = (↑x.snd : Int))∧True)∧((0 : Nat) < x.snd∧x.fst≤(1099511627776 : Nat)∧x.snd≤(1099511627776 : Nat))∧(True∧(True∧True∧(↑(x.fst / x.fst.gcd x.snd) : Int) = oddsOf N (b, o, a).fst (b, o, a).snd.fst (b, o, a).snd.snd)∧True∧(↑(x.snd / x.fst.gcd x.snd) : Int) = oddsIn N (b, o, a).fst (b, o, a).snd.fst (b, o, a).snd.snd)∧(True∧(0 : Int) = oddsE N (b, o, a).fst (b, o, a).snd.fst (b, o, a).snd.snd)∧True)))) (by kernel_rfl) ?_
 simp only [true_and, and_true, inR, Prod.exists, Prod.forall, and_assoc, exists_and_left, exists_eq_left', exists_eq_left, forall_eq, exists_const, forall_const, loopN, loopM, fa2, fas, fas2, dup1, dup2, dup3, dup4, ite_true, exhs, exhn, exhz, exho, exA, ex1, ex2, ex3, ex4, ex5, beqI, bneI, decide_true, Bool.true_and, decide_eq_true_eq, decide_eq_false_iff_not, ne_eq, Decidable.not_not]
 have b7 : ¬ (within N 1 40 && within b 0 N) = true → 0 = oddsOf N b o a ∧ 0 = oddsIn N b o a ∧ 7 = oddsE N b o a := fun h => let ⟨e1, e2, e3⟩ := odds_bad7 (o := o) (a := a) h; ⟨e1.symm, e2.symm, e3.symm⟩
 have b72 : (within N 1 40 && within b 0 N) = true → ¬ planOk N o a = true → 0 = oddsOf N b o a ∧ 0 = oddsIn N b o a ∧ 72 = oddsE N b o a := fun h0 h => let ⟨e1, e2, e3⟩ := odds_bad72 h0 h; ⟨e1.symm, e2.symm, e3.symm⟩
 refine ⟨fun h => b7 (by simp_all), fun h1 => ⟨fun h => b7 (by simp_all), fun h2 => ?_⟩⟩
 · refine ⟨fun _ _ h => (by cases h), is35, ?_⟩
   simp only [Bool.not_eq_false'] at h1 h2
   have w := Bool.and_eq_true_iff.2 ⟨h1, h2⟩
   have w1 := Bm.within_iff.1 h1
   have w2 := Bm.within_iff.1 h2
   obtain ⟨n, rfl⟩ : ∃ n : Nat, N = n := ⟨N.toNat, by omega⟩
   obtain ⟨c, rfl⟩ : ∃ c : Nat, b = c := ⟨b.toNat, by omega⟩
   refine ⟨n, by omega, rfl, fun h3 => b72 w (by simp_all), fun h3 => ?_⟩
   have h3 : planOk n o a = true := by simpa using h3
   have w3 := h3
   simp only [planOk, Bool.and_eq_true, Bm.within_iff] at w3
   obtain ⟨u, rfl⟩ : ∃ u : Nat, o = u := ⟨o.toNat, by omega⟩
   obtain ⟨v, rfl⟩ : ∃ v : Nat, a = v := ⟨a.toNat, by omega⟩
   obtain ⟨e1, e2, e3⟩ := odds_good w h3
   have cb := ch_le (n := n) (k := u) (by omega)
   have c0 := ch_pos (n := n) (k := u) (by omega)
   have fb := F_le (N := n) (b := c) (o := u) (a := v) (by omega) (by omega)
   refine ⟨is78, ⟨n, c, u, 0, v⟩, by show n ≤ 40; omega, by show c ≤ n; omega, by show u ≤ n; omega, by show v ≤ u; omega, Nat.zero_le _, rfl, rfl, rfl, rfl, rfl, c0, ?_, cb, ?_, ?_, e3.symm⟩
   · show fnd n c u 0 v ≤ 1099511627776
     rw [fnd_F]; omega
   · show ((fnd n c u 0 v / Nat.gcd (fnd n c u 0 v) (ch n u) : Nat) : Int) = _
     rw [fnd_F]; exact e1.symm
   · show ((ch n u / Nat.gcd (fnd n c u 0 v) (ch n u) : Nat) : Int) = _
     rw [fnd_F]; exact e2.symm
end Go.Proofs.Ytpigkgoooekcgaa
namespace Go.Proofs.Ytpigkgoooekcgaa
open Go Go.Sx Bm
set_option maxRecDepth 100000
def TD : List (Nat × Sig) := (29, sOdds) :: TC
theorem TD_ok : SigsOk Try.prog E0 TD := (TC_ok.cons (runs 29 (by kernel_rfl)) fun x _ => q29 x)
def V5 : List (Nat × ESpec) := (36, eKeeps) :: V4
theorem V5_ok : EvensOk Try.prog E0 V5 := V4_ok.cons r36
def sKeeps : Sig := ⟨Int × (Nat → Int) × Int × Int, fun x => [intC x.1, arrTV 6 x.2.1, twoTV x.2.2.1 x.2.2.2], fun _ => True, fun x => [.v (.c (.bool (keepsB x.1 x.2.1 x.2.2.1 x.2.2.2))), .v (intC (keepsE x.1 x.2.1 x.2.2.1 x.2.2.2))]⟩
theorem q14 (x : sKeeps.α) : CallQ Try.prog E0 14 (sKeeps.arg x) (sKeeps.res x) := by
 obtain ⟨N, r, o, a⟩ := x
 refine bare_all E0_ok TD TD_ok V5 V5_ok runs [] [] [] [(34, 4, mapN 6)] (fuel := 5) ?_
 refine of_red (q := ∃ (x : Int × Int × Int), ((True∧N = x.fst)∧(True∧(1 : Int) = x.snd.fst)∧(True∧(40 : Int) = x.snd.snd)∧True)∧True∧((!within x.fst x.snd.fst x.snd.snd) = true→(((7 : Int) != (0 : Int)) = true→(True∧keepsB N (r, o, a).fst (r, o, a).snd.fst (r, o, a).snd.snd = false)∧(True∧(7 : Int) = keepsE N (r, o, a).fst (r, o, a).snd.fst (r, o, a).snd.snd)∧True)∧(((7 : Int) != (0 : Int)) = false→(lookFn fnTab (35 : Nat)).isSome = true∧∃ (g : Nat × Int × Int), g.fst≤(1000000 : Nat)∧False))∧((!within x.fst x.snd.fst x.snd.snd) = false→(True∧∀ (ks : List Int) (x : Int), none = some x→x = cI (ks.getD (0 : Nat) (0 : Int)) (ks.getD (1 : Nat) (0 : Int)))∧(lookFn fnTab (60 : Nat)).isSome = true∧∃ (g : Nat × (Nat→Int)), g.fst≤(1000000 : Nat)∧True∧((True∧(True∧True∧N = (↑g.fst : Int))∧True)∧(True∧(((((True∧True∧(r, o, a).fst 0 = g.snd 0)∧True∧(r, o, a).fst 1 = g.snd 1)∧True∧(r, o, a).fst 2 = g.snd 2)∧True∧(r, o, a).fst 3 = g.snd 3)∧True∧(r, o, a).fst 4 = g.snd 4)∧True∧(r, o, a).fst 5 = g.snd 5)∧True)∧((True∧∀ (ks : List Int) (x : Int), x = cI (ks.getD (0 : Nat) (0 : Int)) (ks.getD (1 : Nat) (0 : Int))→x = cI (ks.getD (0 : Nat) (0 : Int)) (ks.getD (1 : Nat) (0 : Int)))∧True)∧((True∧∀ (ks : List Int) (x : Int), x = cI (ks.getD (0 : Nat) (0 : Int)) (ks.getD (1 : Nat) (0 : Int))→x = cI (ks.getD (0 : Nat) (0 : Int)) (ks.getD (1 : Nat) (0 : Int)))∧True)∧((!ruleOk (↑g.fst : Int) g.snd) = true→(((71 : Int) != (0 : Int)) = true→(True∧keepsB N (r, o, a).fst (r, o, a).snd.fst (r, o, a).snd.snd = false)∧(True∧(71 : Int) = keepsE N (r, o, a).fst (r, o, a).snd.fst (r, o, a).snd.snd)∧True)∧(((71 : Int) != (0 : Int)) = false→(lookFn fnTab (35 : Nat)).isSome = true∧∃ (g : Nat × Int × Int), g.fst≤(1000000 : Nat)∧True∧((True∧(True∧True∧N = (↑g.fst : Int))∧True)∧(True∧(True∧True∧(r, o, a).snd.fst = g.snd.fst)∧True∧(r, o, a).snd.snd = g.snd.snd)∧True)∧((True∧∀ (ks : List Int) (x : Int), x = cI (ks.getD (0 : Nat) (0 : Int)) (ks.getD (1 : Nat) (0 : Int))→x = cI (ks.getD (0 : Nat) (0 : Int)) (ks.getD (1 : Nat) (0 : Int)))∧True)∧((True∧∀ (ks : List Int) (x : Int), x = cI (ks.getD (0 : Nat) (0 : Int)) (ks.getD (1 : Nat) (0 : Int))→x = cI (ks.getD (0 : Nat) (0 : Int)) (ks.getD (1 : Nat) (0 : Int)))∧True)∧((!planOk (↑g.fst : Int) g.snd.fst g.snd.snd) = true→(True∧keepsB N (r, o, a).fst (r, o, a).snd.fst (r, o, a).snd.snd = false)∧(True∧(72 : Int) = keepsE N (r, o, a).fst (r, o, a).snd.fst (r, o, a).snd.snd)∧True)∧((!planOk (↑g.fst : Int) g.snd.fst g.snd.snd) = false→(lookFn fnTab (36 : Nat)).isSome = true∧∃ (g : KeepIn), g.wf∧True∧((True∧(True∧True∧N = (↑g.N : Int))∧True)∧(True∧(((((True∧True∧(r, o, a).fst 0 = g.r 0)∧True∧(r, o, a).fst 1 = g.r 1)∧True∧(r, o, a).fst 2 = g.r 2)∧True∧(r, o, a).fst 3 = g.r 3)∧True∧(r, o, a).fst 4 = g.r 4)∧True∧(r, o, a).fst 5 = g.r 5)∧(True∧(True∧True∧(r, o, a).snd.fst = (↑g.o : Int))∧True∧(r, o, a).snd.snd = (↑g.a : Int))∧True)∧((True∧∀ (ks : List Int) (x : Int), x = cI (ks.getD (0 : Nat) (0 : Int)) (ks.getD (1 : Nat) (0 : Int))→x = cI (ks.getD (0 : Nat) (0 : Int)) (ks.getD (1 : Nat) (0 : Int)))∧True)∧((True∧∀ (ks : List Int) (x : Int), x = cI (ks.getD (0 : Nat) (0 : Int)) (ks.getD (1 : Nat) (0 : Int))→x = cI (ks.getD (0 : Nat) (0 : Int)) (ks.getD (1 : Nat) (0 : Int)))∧True)∧(True∧keeps g.N g.o g.a g.r = keepsB N (r, o, a).fst (r, o, a).snd.fst (r, o, a).snd.snd)∧(True∧(0 : Int) = keepsE N (r, o, a).fst (r, o, a).snd.fst (r, o, a).snd.snd)∧True)))∧((!ruleOk (↑g.fst : Int) g.snd) = false→(((0 : Int) != (0 : Int)) = true→(True∧keepsB N (r, o, a).fst (r, o, a).snd.fst (r, o, a).snd.snd = false)∧(True∧(0 : Int) = keepsE N (r, o, a).fst (r, o, a).snd.fst (r, o, a).snd.snd)∧True)∧(((0 : Int) != (0 : Int)) = false→(lookFn fnTab (35 : Nat)).isSome = true∧∃ (g : Nat × Int × Int), g.fst≤(1000000 : Nat)∧True∧((True∧(True∧True∧N = (↑g.fst : Int))∧True)∧(True∧(True∧True∧(r, o, a).snd.fst = g.snd.fst)∧True∧(r, o, a).snd.snd = g.snd.snd)∧True)∧((True∧∀ (ks : List Int) (x : Int), x = cI (ks.getD (0 : Nat) (0 : Int)) (ks.getD (1 : Nat) (0 : Int))→x = cI (ks.getD (0 : Nat) (0 : Int)) (ks.getD (1 : Nat) (0 : Int)))∧True)∧((True∧∀ (ks : List Int) (x : Int), x = cI (ks.getD (0 : Nat) (0 : Int)) (ks.getD (1 : Nat) (0 : Int))→x = cI (ks.getD (0 : Nat) (0 : Int)) (ks.getD (1 : Nat) (0 : Int)))∧True)∧((!planOk (↑g.fst : Int) g.snd.fst g.snd.snd) = true→(True∧keepsB N (r, o, a).fst (r, o, a).snd.fst (r, o, a).snd.snd = false)∧(True∧(72 : Int) = keepsE N (r, o, a).fst (r, o, a).snd.fst (r, o, a).snd.snd)∧True)∧((!planOk (↑g.fst : Int) g.snd.fst g.snd.snd) = false→(lookFn fnTab (36 : Nat)).isSome = true∧∃ (g : KeepIn), g.wf∧True∧((True∧(True∧True∧N = (↑g.N : Int))∧True)∧(True∧(((((True∧True∧(r, o, a).fst 0 = g.r 0)∧True∧(r, o, a).fst 1 = g.r 1)∧True∧(r, o, a).fst 2 = g.r 2)∧True∧(r, o, a).fst 3 = g.r 3)∧True∧(r, o, a).fst 4 = g.r 4)∧True∧(r, o, a).fst 5 = g.r 5)∧(True∧(True∧True∧(r, o, a).snd.fst = (↑g.o : Int))∧True∧(r, o, a).snd.snd = (↑g.a : Int))∧True)∧((True∧∀ (ks : List Int) (x : Int), x = cI (ks.getD (0 : Nat) (0 : Int)) (ks.getD (1 : Nat) (0 : Int))→x = cI (ks.getD (0 : Nat) (0 : Int)) (ks.getD (1 : Nat) (0 : Int)))∧True)∧((True∧∀ (ks : List Int) (x : Int), x = cI (ks.getD (0 : Nat) (0 : Int)) (ks.getD (1 : Nat) (0 : Int))→x = cI (ks.getD (0 : Nat) (0 : Int)) (ks.getD (1 : Nat) (0 : Int)))∧True)∧(True∧keeps g.N g.o g.a g.r = keepsB N (r, o, a).fst (r, o, a).snd.fst (r, o, a).snd.snd)∧(True∧(0 : Int) = keepsE N (r, o, a).fst (r, o, a).snd.fst (r, o, a).snd.snd)∧True))))) (by kernel_rfl) ?_
 simp only [true_and, and_true, inR, Prod.exists, Prod.forall, and_assoc, exists_and_left, exists_eq_left', exists_eq_left, forall_eq, exists_const, forall_const, loopN, loopM, fa2, fas, fas2, dup1, dup2, dup3, dup4, ite_true, exhs, exhn, exhz, exho, exA, ex1, ex2, ex3, ex4, ex5, beqI, bneI, decide_true, Bool.true_and, decide_eq_true_eq, decide_eq_false_iff_not, ne_eq, Decidable.not_not]
 have b7 : ¬ within N 1 40 = true → keepsB N r o a = false ∧ 7 = keepsE N r o a := fun h => by
   have e := ruled_7 (r := r) h
   have k := kE_bad (o := o) (a := a) (show ruledE N r ≠ 0 by omega)
   exact ⟨k.2, by rw [k.1, e]⟩
 have b71 : within N 1 40 = true → ¬ ruleOk N r = true → keepsB N r o a = false ∧ 71 = keepsE N r o a := fun h0 h => by
   have e := ruled_71 (r := r) h0 h
   have k := kE_bad (o := o) (a := a) (show ruledE N r ≠ 0 by omega)
   exact ⟨k.2, by rw [k.1, e]⟩
 have b72 : within N 1 40 = true → ruleOk N r = true → ¬ planOk N o a = true → keepsB N r o a = false ∧ 72 = keepsE N r o a := fun h0 h h2 => by
   have k := kE_72 (ruled_0 h0 h) h2
   exact ⟨k.2, k.1.symm⟩
 refine ⟨fun h => ⟨fun _ => b7 (by simpa using h), fun h => absurd h (by omega)⟩, fun hw => ?_⟩
 · have hw : within N 1 40 = true := by simpa using hw
   have w1 := Bm.within_iff.1 hw
   obtain ⟨n, rfl⟩ : ∃ n : Nat, N = n := ⟨N.toNat, by omega⟩
   refine ⟨fun _ _ h => (by cases h), is60, n, by omega, rfl, r, rfl, rfl, rfl, rfl, rfl, rfl, fun h2 => ⟨fun _ => b71 hw (by simpa using h2), fun h => absurd h (by omega)⟩, fun h2 => ⟨fun h => absurd trivial h, is35, n, by omega, rfl, fun h3 => b72 hw (by simpa using h2) (by simpa using h3), fun h3 => ?_⟩⟩
   have h2 : ruleOk n r = true := by simpa using h2
   have h3 : planOk n o a = true := by simpa using h3
   have w3 := h3
   simp only [planOk, Bool.and_eq_true, Bm.within_iff] at w3
   obtain ⟨u, rfl⟩ : ∃ u : Nat, o = u := ⟨o.toNat, by omega⟩
   obtain ⟨v, rfl⟩ : ∃ v : Nat, a = v := ⟨a.toNat, by omega⟩
   have k := kE_0 (ruled_0 hw h2) h3
   exact ⟨is36, ⟨n, u, v, r⟩, ⟨by show n ≤ 40; omega, by show u ≤ n; omega, by show v ≤ u; omega, h2⟩, rfl, rfl, rfl, rfl, rfl, rfl, rfl, rfl, rfl, k.2.symm, k.1.symm⟩
end Go.Proofs.Ytpigkgoooekcgaa
namespace Bm
def lst (p : Nat → Bool) : Nat → Nat
 | 0 => 0
 | j + 1 => if p j then j else lst p j
def mxN (a : Int) (f : Nat → Int) : Nat → Int
 | 0 => a
 | k + 1 => max (mxN a f k) (f k)
structure BInv (p : Nat → Bool) (j c : Nat) (f : Nat → Int) : Prop where
 none : c = 0 → ∀ i, i < j → p i = false
 some : 0 < c → fst p j < j ∧ f 0 = fst p j ∧ f (c - 1) = lst p j ∧ ∀ i, i < c → f i ≤ lst p j
 le : c ≤ j
theorem BInv.no {p : Nat → Bool} {j c : Nat} {f : Nat → Int} (h : BInv p j c f) (hp : p j = false) : BInv p (j + 1) c f := by
 refine ⟨fun h0 i hi => ?_, fun h0 => ?_, by have := h.le; omega⟩
 · by_cases e : i = j
   · subst e; exact hp
   · exact h.none h0 i (by omega)
 · obtain ⟨h1, h2, h3, h4⟩ := h.some h0
   have e1 : fst p (j + 1) = fst p j := by show (if fst p j < j then fst p j else _) = _; rw [if_pos h1]
   have e2 : lst p (j + 1) = lst p j := by show (if p j then j else lst p j) = _; rw [hp]; rfl
   rw [e1, e2]
   exact ⟨by omega, h2, h3, h4⟩
theorem mxN_le {a : Int} {f : Nat → Int} {M : Int} (ha : a ≤ M) : ∀ {k : Nat}, (∀ i, i < k → f i ≤ M) → mxN a f k ≤ M
 | 0, _ => ha
 | k + 1, h => by
   have h1 := mxN_le ha (f := f) (k := k) (fun i hi => h i (by omega))
   have h2 := h k (by omega)
   unfold mxN
   omega
theorem mxN_ge {a : Int} {f : Nat → Int} : ∀ {k i : Nat}, i < k → f i ≤ mxN a f k
 | 0, i, h => absurd h (Nat.not_lt_zero i)
 | k + 1, i, h => by
   unfold mxN
   by_cases e : i = k
   · subst e; omega
   · have := mxN_ge (a := a) (f := f) (k := k) (i := i) (by omega); omega
theorem BInv.max {p : Nat → Bool} {j c : Nat} {f : Nat → Int} (h : BInv p j c f) (hc : 0 < c) : mxN (f 0) f c = lst p j := by
 obtain ⟨h1, h2, h3, h4⟩ := h.some hc
 have a := mxN_le (a := f 0) (f := f) (M := lst p j) (h4 0 hc) (k := c) h4
 have b := mxN_ge (a := f 0) (f := f) (k := c) (i := c - 1) (by omega)
 omega
end Bm
namespace Bm
end Bm
namespace Bm
theorem clamp_eq {x lo hi : Int} (h : lo ≤ hi) : decide (min (max x lo) hi = x) = within x lo hi := by
 apply Bool.eq_iff_iff.2
 simp only [within, Bool.and_eq_true, decide_eq_true_eq]
 omega
theorem mark_span {m : Nat → Int} (h : markOk m = true) {q : Nat} (hq : q < 4) : m (q * 2) ≤ m (q * 2 + 1) := by
 have := allB_iff.1 h q hq
 simp only [spanOk, Bool.and_eq_true, decide_eq_true_eq] at this
 exact this.1.2
theorem grade_70 {n : Nat} {m : Nat → Nat → Int} {b : Nat → Int} (h : ¬ marksOk n m = true) : 0 = gradeN n m b ∧ 70 = gradeE n m b := by
 have e : gradeE n m b = 70 := if_neg h
 exact ⟨(if_neg (by omega)).symm, e.symm⟩
theorem grade_73 {n : Nat} {m : Nat → Nat → Int} {b : Nat → Int} (h : marksOk n m = true) (h2 : ¬ barOk b = true) : 0 = gradeN n m b ∧ 73 = gradeE n m b := by
 have e : gradeE n m b = 73 := by unfold gradeE; rw [if_pos h, if_neg h2]
 exact ⟨(if_neg (by omega)).symm, e.symm⟩
theorem grade_4 {n : Nat} {m : Nat → Nat → Int} {b : Nat → Int} (h : marksOk n m = true) (h2 : barOk b = true) (h3 : ∀ k, k < n → reach (m k) b = false) : 0 = gradeN n m b ∧ 4 = gradeE n m b := by
 have e0 : gradeI n m b = n := fst_none (p := fun i => reach (m i) b) h3
 have e : gradeE n m b = 4 := by unfold gradeE; rw [if_pos h, if_pos h2, e0, if_neg (Nat.lt_irrefl n)]
 exact ⟨(if_neg (by omega)).symm, e.symm⟩
theorem grade_0 {n : Nat} {m : Nat → Nat → Int} {b : Nat → Int} (h : marksOk n m = true) (h2 : barOk b = true) {i : Nat} (hi : i < n) (h3 : ∀ k, k < i → reach (m k) b = false) (h4 : reach (m i) b = true) : (i : Int) = gradeN n m b ∧ 0 = gradeE n m b := by
 have e0 : gradeI n m b = i := fst_of (p := fun i => reach (m i) b) hi h4 h3
 have e : gradeE n m b = 0 := by unfold gradeE; rw [if_pos h, if_pos h2, e0, if_pos hi]
 exact ⟨by unfold gradeN; rw [if_pos e, e0], e.symm⟩
end Bm
namespace Bm
open Go Go.Sx
def alw (N o : Nat) (r : Nat → Int) : Nat → Int
 | 0 => -1
 | j + 1 => if keeps N o j r then j else alw N o r j
def cnt (m : Nat → Int) (op : Nat → Nat → Int) : Nat → Nat
 | 0 => 0
 | k + 1 => cnt m op k + if reach m (op k) then 0 else 1
theorem cnt_le {m : Nat → Int} {op : Nat → Nat → Int} : ∀ k, cnt m op k ≤ k
 | 0 => Nat.le_refl 0
 | k + 1 => by have := cnt_le (m := m) (op := op) k; unfold cnt; split <;> omega
structure PrIn where
 n : Nat
 m : Nat → Nat → Int
 N : Int
 r : Nat → Int
 no : Nat
 op : Nat → Nat → Int
def prAl (x : PrIn) : Int := alw x.N.toNat x.no x.r (x.no + 1)
def prOk (x : PrIn) : Bool := decide ((x.no : Int) ≤ x.N) && allB x.no (fun k => barOk (x.op k))
def prI (x : PrIn) : Nat := fst (fun i => decide ((cnt (x.m i) x.op x.no : Int) ≤ prAl x)) x.n
def prE (x : PrIn) : Int := if marksOk x.n x.m then (if ruledE x.N x.r = 0 then (if prOk x then (if prI x < x.n then 0 else 4) else 73) else ruledE x.N x.r) else 70
def prW (x : PrIn) : Int := if prE x = 0 then (prI x : Nat) else 0
def prA (x : PrIn) : Int := if prE x = 0 then prAl x else 0
theorem pr_70 {x : PrIn} (h : ¬ marksOk x.n x.m = true) : 0 = prW x ∧ 0 = prA x ∧ 70 = prE x := by
 have e : prE x = 70 := if_neg h
 exact ⟨(if_neg (by omega)).symm, (if_neg (by omega)).symm, e.symm⟩
theorem pr_7 {x : PrIn} (h : marksOk x.n x.m = true) (h2 : ¬ within x.N 1 40 = true) : 0 = prW x ∧ 0 = prA x ∧ 7 = prE x := by
 have e0 := ruled_7 (r := x.r) h2
 have e : prE x = 7 := by unfold prE; rw [if_pos h, if_neg (by omega), e0]
 exact ⟨(if_neg (by omega)).symm, (if_neg (by omega)).symm, e.symm⟩
theorem pr_71 {x : PrIn} (h : marksOk x.n x.m = true) (h2 : within x.N 1 40 = true) (h3 : ¬ ruleOk x.N x.r = true) : 0 = prW x ∧ 0 = prA x ∧ 71 = prE x := by
 have e0 := ruled_71 (r := x.r) h2 h3
 have e : prE x = 71 := by unfold prE; rw [if_pos h, if_neg (by omega), e0]
 exact ⟨(if_neg (by omega)).symm, (if_neg (by omega)).symm, e.symm⟩
theorem pr_73 {x : PrIn} (h : marksOk x.n x.m = true) (h2 : within x.N 1 40 = true) (h3 : ruleOk x.N x.r = true) (h4 : ¬ prOk x = true) : 0 = prW x ∧ 0 = prA x ∧ 73 = prE x := by
 have e0 := ruled_0 (r := x.r) h2 h3
 have e : prE x = 73 := by unfold prE; rw [if_pos h, if_pos e0, if_neg h4]
 exact ⟨(if_neg (by omega)).symm, (if_neg (by omega)).symm, e.symm⟩
theorem pr_4 {x : PrIn} (h : marksOk x.n x.m = true) (h2 : within x.N 1 40 = true) (h3 : ruleOk x.N x.r = true) (h4 : prOk x = true) (h5 : ∀ i, i < x.n → ¬ (cnt (x.m i) x.op x.no : Int) ≤ prAl x) : 0 = prW x ∧ 0 = prA x ∧ 4 = prE x := by
 have e0 := ruled_0 (r := x.r) h2 h3
 have e1 : prI x = x.n := fst_none (p := fun i => decide ((cnt (x.m i) x.op x.no : Int) ≤ prAl x)) fun i hi => by simpa using h5 i hi
 have e : prE x = 4 := by unfold prE; rw [if_pos h, if_pos e0, if_pos h4, e1, if_neg (Nat.lt_irrefl _)]
 exact ⟨(if_neg (by omega)).symm, (if_neg (by omega)).symm, e.symm⟩
theorem pr_0 {x : PrIn} (h : marksOk x.n x.m = true) (h2 : within x.N 1 40 = true) (h3 : ruleOk x.N x.r = true) (h4 : prOk x = true) {i : Nat} (hi : i < x.n) (h5 : ∀ k, k < i → ¬ (cnt (x.m k) x.op x.no : Int) ≤ prAl x) (h6 : (cnt (x.m i) x.op x.no : Int) ≤ prAl x) : (i : Int) = prW x ∧ prAl x = prA x ∧ 0 = prE x := by
 have e0 := ruled_0 (r := x.r) h2 h3
 have e1 : prI x = i := fst_of (p := fun i => decide ((cnt (x.m i) x.op x.no : Int) ≤ prAl x)) hi (by simpa using h6) fun k hk => by simpa using h5 k hk
 have e : prE x = 0 := by unfold prE; rw [if_pos h, if_pos e0, if_pos h4, e1, if_pos hi]
 exact ⟨by unfold prW; rw [if_pos e, e1], by unfold prA; rw [if_pos e], e.symm⟩
end Bm
namespace Go.Proofs.Ytpigkgoooekcgaa
open Go Go.Sx Bm
set_option maxRecDepth 100000
theorem imax_max {a b : Int} : imax a b = max a b := by unfold imax; split <;> omega
theorem imin_min {a b : Int} : imin a b = min a b := by unfold imin; split <;> omega
def sMarks : Sig := ⟨Nat × (Nat → Nat → Int), fun x => [.c (marksCV x.1 x.2)], fun x => x.1 < 4611686018427387904, fun x => [.v (.c (.bool (marksOk x.1 x.2)))]⟩
def aMk1 (n : Nat) (m : Nat → Nat → Int) : Ann := { G := Nat, ok := fun _ i => i ≤ n, dom := fun _ => [], tm := fun _ i => [(3, .t (.c (.bool (within n 1 5 && allB i (fun k => markOk (m k)))))), (13, .t (intC i))], hp := fun _ _ => [], mu := fun _ i => n - i }
def aMk2 (n : Nat) (m : Nat → Nat → Int) : Ann := { G := Nat × Nat, ok := fun st g => isM (st.tm 13) g.1 ∧ g.2 ≤ 4, dom := fun _ => [], tm := fun _ g => [(3, .t (.c (.bool (within n 1 5 && allB g.1 (fun k => markOk (m k)) && allB g.2 (spanOk (m g.1)))))), (18, .t (intC g.2))], hp := fun _ _ => [], mu := fun _ g => 4 - g.2 }
theorem q31 (x : sMarks.α) (h : sMarks.pre x) : CallQ Try.prog E0 31 (sMarks.arg x) (sMarks.res x) := by
 obtain ⟨n, m⟩ := x
 refine bare_all E0_ok TD TD_ok V5 V5_ok runs [(31, 3, aMk1 n m), (31, 6, aMk2 n m)] [] [] [] (fuel := 5) ?_
 refine of_red (q := ∃ (x : Int × Int × Int), ((True∧(↑n : Int) = x.fst)∧(True∧(1 : Int) = x.snd.fst)∧(True∧(5 : Int) = x.snd.snd)∧True)∧True∧(∃ (g : Nat), g≤n∧True∧((True∧within x.fst x.snd.fst x.snd.snd = (within (↑n : Int) (1 : Int) (5 : Int) && allB g fun (k : Nat) => markOk (m k)))∧(True∧(0 : Int) = (↑g : Int))∧True)∧True)∧∀ (g : Nat), g≤n→(decide ((↑g : Int) < (↑n : Int)) = true→(0 : Int)≤(↑g : Int)∧(↑g : Int) < (↑n : Int)∧(∃ (g_1 : Nat × Nat), ((↑g : Int) = (↑g_1.fst : Int)∧g_1.snd≤(4 : Nat))∧True∧((True∧(within (↑n : Int) (1 : Int) (5 : Int) && allB g fun (k : Nat) => markOk (m k)) = ((within (↑n : Int) (1 : Int) (5 : Int) && allB g_1.fst fun (k : Nat) => markOk (m k)) && allB g_1.snd (spanOk (m g_1.fst))))∧(True∧(0 : Int) = (↑g_1.snd : Int))∧True)∧True)∧∀ (g_1 : Nat × Nat), (↑g : Int) = (↑g_1.fst : Int)∧g_1.snd≤(4 : Nat)→(decide ((↑g_1.snd : Int) < (4 : Int)) = true→(0 : Int)≤(↑g_1.snd : Int)∧(↑g_1.snd : Int) < (↑(4 : Nat) : Int)∧(((within (↑n : Int) (1 : Int) (5 : Int) && allB g_1.fst fun (k : Nat) => markOk (m k)) && allB g_1.snd (spanOk (m g_1.fst))) = true→(decide ((0 : Int)≤m g (g_1.snd * (2 : Nat) + (0 : Nat))) = true→(decide (m g (g_1.snd * (2 : Nat) + (0 : Nat))≤m g (g_1.snd * (2 : Nat) + ((0 : Nat) + (nat_lit 0 + (1 : Nat))))) = true→inRange IntKind.i64 ((↑g_1.snd : Int) + (1 : Int))∧∃ (g' : Nat × Nat), ((↑g : Int) = (↑g'.fst : Int)∧g'.snd≤(4 : Nat))∧(4 : Nat) - g'.snd < (4 : Nat) - g_1.snd∧True∧((True∧decide (m g (g_1.snd * (2 : Nat) + ((0 : Nat) + (nat_lit 0 + (1 : Nat))))≤(1000 : Int)) = ((within (↑n : Int) (1 : Int) (5 : Int) && allB g'.fst fun (k : Nat) => markOk (m k)) && allB g'.snd (spanOk (m g'.fst))))∧(True∧(↑g_1.snd : Int) + (1 : Int) = (↑g'.snd : Int))∧True)∧True)∧(decide (m g (g_1.snd * (2 : Nat) + (0 : Nat))≤m g (g_1.snd * (2 : Nat) + ((0 : Nat) + (nat_lit 0 + (1 : Nat))))) = false→inRange IntKind.i64 ((↑g_1.snd : Int) + (1 : Int))∧∃ (g' : Nat × Nat), ((↑g : Int) = (↑g'.fst : Int)∧g'.snd≤(4 : Nat))∧(4 : Nat) - g'.snd < (4 : Nat) - g_1.snd∧True∧((True∧((within (↑n : Int) (1 : Int) (5 : Int) && allB g'.fst fun (k : Nat) => markOk (m k)) && allB g'.snd (spanOk (m g'.fst))) = false)∧(True∧(↑g_1.snd : Int) + (1 : Int) = (↑g'.snd : Int))∧True)∧True))∧(decide ((0 : Int)≤m g (g_1.snd * (2 : Nat) + (0 : Nat))) = false→inRange IntKind.i64 ((↑g_1.snd : Int) + (1 : Int))∧∃ (g' : Nat × Nat), ((↑g : Int) = (↑g'.fst : Int)∧g'.snd≤(4 : Nat))∧(4 : Nat) - g'.snd < (4 : Nat) - g_1.snd∧True∧((True∧((within (↑n : Int) (1 : Int) (5 : Int) && allB g'.fst fun (k : Nat) => markOk (m k)) && allB g'.snd (spanOk (m g'.fst))) = false)∧(True∧(↑g_1.snd : Int) + (1 : Int) = (↑g'.snd : Int))∧True)∧True))∧(((within (↑n : Int) (1 : Int) (5 : Int) && allB g_1.fst fun (k : Nat) => markOk (m k)) && allB g_1.snd (spanOk (m g_1.fst))) = false→inRange IntKind.i64 ((↑g_1.snd : Int) + (1 : Int))∧∃ (g' : Nat × Nat), ((↑g : Int) = (↑g'.fst : Int)∧g'.snd≤(4 : Nat))∧(4 : Nat) - g'.snd < (4 : Nat) - g_1.snd∧True∧((True∧((within (↑n : Int) (1 : Int) (5 : Int) && allB g'.fst fun (k : Nat) => markOk (m k)) && allB g'.snd (spanOk (m g'.fst))) = false)∧(True∧(↑g_1.snd : Int) + (1 : Int) = (↑g'.snd : Int))∧True)∧True))∧(decide ((↑g_1.snd : Int) < (4 : Int)) = false→inRange IntKind.i64 ((↑g : Int) + (1 : Int))∧∃ (g' : Nat), g'≤n∧n - g' < n - g∧True∧((True∧((within (↑n : Int) (1 : Int) (5 : Int) && allB g_1.fst fun (k : Nat) => markOk (m k)) && allB g_1.snd (spanOk (m g_1.fst))) = (within (↑n : Int) (1 : Int) (5 : Int) && allB g' fun (k : Nat) => markOk (m k)))∧(True∧(↑g : Int) + (1 : Int) = (↑g' : Int))∧True)∧True))∧(decide ((↑g : Int) < (↑n : Int)) = false→True∧(within (↑n : Int) (1 : Int) (5 : Int) && allB g fun (k : Nat) => markOk (m k)) = marksOk n m)) (by kernel_rfl) ?_
 have h : n < 4611686018427387904 := h
 simp only [true_and, and_true, inR, Prod.exists, Prod.forall, and_assoc, exists_and_left, exists_eq_left', exists_eq_left, forall_eq, exists_const, forall_const, loopN, loopM, fa2, fas, fas2, dup1, dup2, dup3, dup4, ite_true, exhs, exhn, exhz, exho, exA, ex1, ex2, ex3, ex4, ex5, beqI, bneI, decide_true, Bool.true_and, decide_eq_true_eq, decide_eq_false_iff_not, ne_eq, Decidable.not_not]
 refine ⟨Nat.zero_le _, by simp [allB], fun i hi => ⟨by omega, by omega, by omega, by simp [allB], fun q hq => ⟨fun hlt => ⟨by omega, by omega, fun h1 => ⟨fun c1 => ⟨fun c2 => ⟨by omega, by omega, by omega, by omega, ?_⟩, fun c2 => ⟨by omega, by omega, by omega, by omega, ?_⟩⟩, fun c1 => ⟨by omega, by omega, by omega, by omega, ?_⟩⟩, fun h1 => ⟨by omega, by omega, by omega, by omega, ?_⟩⟩, fun hge => ⟨by omega, by omega, by omega, by omega, ?_⟩⟩⟩, rfl⟩
 · simp_all [allB, spanOk]
 · simp_all [allB, spanOk]; intros; omega
 · simp_all [allB, spanOk]; intros; omega
 · show ((within n 1 5 && allB i fun k => markOk (m k)) && (allB q (spanOk (m i)) && spanOk (m i) q)) = false
   rw [← Bool.and_assoc, h1, Bool.false_and]
 · obtain rfl : q = 4 := by omega
   exact Bool.and_assoc _ _ _
def sHold : Sig := ⟨(Int × Int) × Int, fun x => [twoTV x.1.1 x.1.2, intC x.2], fun _ => True, fun x => [.v (.c (.bool (within x.2 x.1.1 x.1.2)))]⟩
theorem q11 (x : sHold.α) : CallQ Try.prog E0 11 (sHold.arg x) (sHold.res x) := by
 obtain ⟨⟨a, b⟩, c⟩ := x
 refine bare_all E0_ok TD TD_ok V5 V5_ok runs [] [] [] [] (fuel := 5) ?_
 refine of_red (q := ∃ (x : Int × Int × Int), ((True∧c = x.fst)∧(True∧a = x.snd.fst)∧(True∧b = x.snd.snd)∧True)∧True∧True∧within x.fst x.snd.fst x.snd.snd = within c (a, b).fst (a, b).snd) (by kernel_rfl) ?_
 simp only [true_and, and_true, inR, Prod.exists, Prod.forall, and_assoc, exists_and_left, exists_eq_left', exists_eq_left, forall_eq, exists_const, forall_const, loopN, loopM, fa2, fas, fas2, dup1, dup2, dup3, dup4, ite_true, exhs, exhn, exhz, exho, exA, ex1, ex2, ex3, ex4, ex5, beqI, bneI, decide_true, Bool.true_and, decide_eq_true_eq, decide_eq_false_iff_not, ne_eq, Decidable.not_not]
def TG0 : List (Nat × Sig) := (11, sHold) :: (31, sMarks) :: TD
theorem TG0_ok : SigsOk Try.prog E0 TG0 := ((TD_ok.cons (runs 31 (by kernel_rfl)) q31).cons (runs 11 (by kernel_rfl)) fun x _ => q11 x)
def sBar : Sig := ⟨Nat → Int, fun b => [arrTV 4 b], fun _ => True, fun b => [.v (.c (.bool (barOk b)))]⟩
def aBa (b : Nat → Int) : Ann := { G := Nat, ok := fun _ q => q ≤ 4 ∧ allB q (fun q => within (b q) 0 1000) = true, dom := fun _ => [], tm := fun _ q => [(6, .t (intC q))], hp := fun _ _ => [], mu := fun _ q => 4 - q }
theorem q32 (b : sBar.α) : CallQ Try.prog E0 32 (sBar.arg b) (sBar.res b) := by
 refine bare_all E0_ok TG0 TG0_ok V5 V5_ok runs [(32, 2, aBa b)] [] [] [] (fuel := 5) ?_
 refine of_red (q := (∃ (g : Nat), (g≤(4 : Nat)∧(allB g fun (q : Nat) => within (b q) (0 : Int) (1000 : Int)) = true)∧True∧((True∧(0 : Int) = (↑g : Int))∧True)∧True)∧∀ (g : Nat), g≤(4 : Nat)∧(allB g fun (q : Nat) => within (b q) (0 : Int) (1000 : Int)) = true→(decide ((↑g : Int) < (4 : Int)) = true→(0 : Int)≤(↑g : Int)∧(↑g : Int) < (↑(4 : Nat) : Int)∧∃ (x : Int × Int × Int), ((True∧b (g * (1 : Nat) + (0 : Nat)) = x.fst)∧(True∧(0 : Int) = x.snd.fst)∧(True∧(1000 : Int) = x.snd.snd)∧True)∧True∧((!within x.fst x.snd.fst x.snd.snd) = true→True∧barOk b = false)∧((!within x.fst x.snd.fst x.snd.snd) = false→inRange IntKind.i64 ((↑g : Int) + (1 : Int))∧∃ (g' : Nat), (g'≤(4 : Nat)∧(allB g' fun (q : Nat) => within (b q) (0 : Int) (1000 : Int)) = true)∧(4 : Nat) - g' < (4 : Nat) - g∧True∧((True∧(↑g : Int) + (1 : Int) = (↑g' : Int))∧True)∧True))∧(decide ((↑g : Int) < (4 : Int)) = false→True∧barOk b = true)) (by kernel_rfl) ?_
 simp only [true_and, and_true, inR, Prod.exists, Prod.forall, and_assoc, exists_and_left, exists_eq_left', exists_eq_left, forall_eq, exists_const, forall_const, loopN, loopM, fa2, fas, fas2, dup1, dup2, dup3, dup4, ite_true, exhs, exhn, exhz, exho, exA, ex1, ex2, ex3, ex4, ex5, beqI, bneI, decide_true, Bool.true_and, decide_eq_true_eq, decide_eq_false_iff_not, ne_eq, Decidable.not_not]
 refine ⟨by omega, rfl, fun q ⟨hq, hall⟩ => ⟨fun hlt => ⟨by omega, by omega, fun h => ?_, fun h => ⟨by omega, by omega, by omega, ?_, by omega⟩⟩, fun hge => ?_⟩⟩
 · exact allB_not (i := q) (by omega) (by simpa using h)
 · have h : within (b q) 0 1000 = true := by simpa using h
   show ((allB q fun q => within (b q) 0 1000) && within (b q) 0 1000) = true
   rw [hall, h]; rfl
 · obtain rfl : q = 4 := by omega
   exact hall
theorem clamp_step {m b : Nat → Int} {q k : Nat} : (if k = q then imin (imax (b q) (m (q * 2))) (m (q * 2 + 1)) else if k < q then min (max (b k) (m (k * 2))) (m (k * 2 + 1)) else b k) = if k < q + 1 then min (max (b k) (m (k * 2))) (m (k * 2 + 1)) else b k := by
 by_cases e : k = q
 · subst e
   rw [if_pos rfl, if_pos (by omega), imin_min, imax_max]
 · rw [if_neg e]
   by_cases c : k < q
   · rw [if_pos c, if_pos (by omega)]
   · rw [if_neg c, if_neg (by omega)]
def sBelow : Sig := ⟨(Nat → Int) × (Nat → Int), fun x => [arrTV 8 x.1, arrTV 4 x.2], fun x => markOk x.1 = true, fun x => [.v (.c (.bool (!reach x.1 x.2)))]⟩
def clampI (m b : Nat → Int) (q : Nat) : Int := min (max (b q) (m (q * 2))) (m (q * 2 + 1))
def aBw (m b : Nat → Int) : Ann := { G := Nat, ok := fun _ q => q ≤ 4, dom := fun st => [osN (st.tm 5)], tm := fun _ q => [(10, .t (intC q))], hp := fun st q => [(osN (st.tm 5), .self, some (.box 4 (fun j => .int .i64 (if j < q then clampI m b j else b j))))], mu := fun _ q => 4 - q }
theorem q33 (x : sBelow.α) (h : sBelow.pre x) : CallQ Try.prog E0 33 (sBelow.arg x) (sBelow.res x) := by
 obtain ⟨m, b⟩ := x
 refine bare_all E0_ok TG0 TG0_ok V5 V5_ok runs [(33, 3, aBw m b)] [] [] [] (fuel := 5) ?_
 refine of_red (q := (∃ (g : Nat), g≤(4 : Nat)∧True∧((True∧(0 : Int) = (↑g : Int))∧True)∧(True∧(((True∧True∧b 0 = if nat_lit 0 < g then clampI m b 0 else b 0)∧True∧b 1 = if nat_lit 1 < g then clampI m b 1 else b 1)∧True∧b 2 = if nat_lit 2 < g then clampI m b 2 else b 2)∧True∧b 3 = if nat_lit 3 < g then clampI m b 3 else b 3)∧True)∧∀ (g : Nat), g≤(4 : Nat)→(decide ((↑g : Int) < (4 : Int)) = true→(0 : Int)≤(↑g : Int)∧(↑g : Int) < (↑(4 : Nat) : Int)∧(0 : Int)≤(↑g : Int)∧(↑g : Int) < (↑(4 : Nat) : Int)∧(0 : Int)≤(↑g : Int)∧(↑g : Int) < (↑(4 : Nat) : Int)∧inRange IntKind.i64 ((↑g : Int) + (1 : Int))∧∃ (g' : Nat), g'≤(4 : Nat)∧(4 : Nat) - g' < (4 : Nat) - g∧True∧((True∧(↑g : Int) + (1 : Int) = (↑g' : Int))∧True)∧(True∧(((True∧True∧(if nat_lit 0 = (0 : Nat) + g * (1 : Nat) + (0 : Nat) then imin (imax (if (0 : Nat) + g * (1 : Nat) + (0 : Nat) + (0 : Nat) < g then clampI m b ((0 : Nat) + g * (1 : Nat) + (0 : Nat) + (0 : Nat)) else b ((0 : Nat) + g * (1 : Nat) + (0 : Nat) + (0 : Nat))) (m (g * (2 : Nat) + (0 : Nat)))) (m (g * (2 : Nat) + ((0 : Nat) + (nat_lit 0 + (1 : Nat))))) else if nat_lit 0 < g then clampI m b 0 else b 0) = if nat_lit 0 < g' then clampI m b 0 else b 0)∧True∧(if nat_lit 1 = (0 : Nat) + g * (1 : Nat) + (0 : Nat) then imin (imax (if (0 : Nat) + g * (1 : Nat) + (0 : Nat) + (0 : Nat) < g then clampI m b ((0 : Nat) + g * (1 : Nat) + (0 : Nat) + (0 : Nat)) else b ((0 : Nat) + g * (1 : Nat) + (0 : Nat) + (0 : Nat))) (m (g * (2 : Nat) + (0 : Nat)))) (m (g * (2 : Nat) + ((0 : Nat) + (nat_lit 0 + (1 : Nat))))) else if nat_lit 1 < g then clampI m b 1 else b 1) = if nat_lit 1 < g' then clampI m b 1 else b 1)∧True∧(if nat_lit 2 = (0 : Nat) + g * (1 : Nat) + (0 : Nat) then imin (imax (if (0 : Nat) + g * (1 : Nat) + (0 : Nat) + (0 : Nat) < g then clampI m b ((0 : Nat) + g * (1 : Nat) + (0 : Nat) + (0 : Nat)) else b ((0 : Nat) + g * (1 : Nat) + (0 : Nat) + (0 : Nat))) (m (g * (2 : Nat) + (0 : Nat)))) (m (g * (2 : Nat) + ((0 : Nat) + (nat_lit 0 + (1 : Nat))))) else if nat_lit 2 < g then clampI m b 2 else b 2) = if nat_lit 2 < g' then clampI m b 2 else b 2)∧True∧(if nat_lit 3 = (0 : Nat) + g * (1 : Nat) + (0 : Nat) then imin (imax (if (0 : Nat) + g * (1 : Nat) + (0 : Nat) + (0 : Nat) < g then clampI m b ((0 : Nat) + g * (1 : Nat) + (0 : Nat) + (0 : Nat)) else b ((0 : Nat) + g * (1 : Nat) + (0 : Nat) + (0 : Nat))) (m (g * (2 : Nat) + (0 : Nat)))) (m (g * (2 : Nat) + ((0 : Nat) + (nat_lit 0 + (1 : Nat))))) else if nat_lit 3 < g then clampI m b 3 else b 3) = if nat_lit 3 < g' then clampI m b 3 else b 3)∧True)∧(decide ((↑g : Int) < (4 : Int)) = false→True∧(!((if nat_lit 0 < g then clampI m b 0 else b 0) == b 0 && ((if nat_lit 1 < g then clampI m b 1 else b 1) == b 1 && ((if nat_lit 2 < g then clampI m b 2 else b 2) == b 2 && ((if nat_lit 3 < g then clampI m b 3 else b 3) == b 3 && true))))) = !reach m b)) (by kernel_rfl) ?_
 have h : markOk m = true := h
 simp only [true_and, and_true, inR, Prod.exists, Prod.forall, and_assoc, exists_and_left, exists_eq_left', exists_eq_left, forall_eq, exists_const, forall_const, loopN, loopM, fa2, fas, fas2, dup1, dup2, dup3, dup4, ite_true, exhs, exhn, exhz, exho, exA, ex1, ex2, ex3, ex4, ex5, beqI, bneI, decide_true, Bool.true_and, decide_eq_true_eq, decide_eq_false_iff_not, ne_eq, Decidable.not_not]
 unfold clampI
 refine ⟨⟨0, by omega, rfl, by simp, by simp, by simp, by simp⟩, fun q hq => ⟨fun hlt => ?_, fun hge => ?_⟩⟩
 · simp only [Nat.zero_add, Nat.mul_one, Nat.add_zero, Nat.lt_irrefl, if_false]
   exact ⟨by omega, by omega, by omega, by omega, by omega, by omega, by omega, by omega, q + 1, by omega, by omega, by omega, clamp_step (k := 0), clamp_step (k := 1), clamp_step (k := 2), clamp_step (k := 3)⟩
 · obtain rfl : q = 4 := by omega
   have e : reach m b = (((true && within (b 0) (m 0) (m 1)) && within (b 1) (m 2) (m 3) && within (b 2) (m 4) (m 5)) && within (b 3) (m 6) (m 7)) := rfl
   rw [if_pos (by omega), if_pos (by omega), if_pos (by omega), if_pos (by omega)]
   have c0 := clamp_eq (x := b 0) (mark_span h (q := 0) (by omega))
   have c1 := clamp_eq (x := b 1) (mark_span h (q := 1) (by omega))
   have c2 := clamp_eq (x := b 2) (mark_span h (q := 2) (by omega))
   have c3 := clamp_eq (x := b 3) (mark_span h (q := 3) (by omega))
   rw [c0, c1, c2, c3, e]
   simp only [Nat.zero_mul, Nat.one_mul, Nat.zero_add, Nat.reduceMul, Nat.reduceAdd, Bool.and_true, Bool.true_and, Bool.and_assoc]
def TG1 : List (Nat × Sig) := (33, sBelow) :: (32, sBar) :: TG0
theorem TG1_ok : SigsOk Try.prog E0 TG1 := ((TG0_ok.cons (runs 32 (by kernel_rfl)) fun x _ => q32 x).cons (runs 33 (by kernel_rfl)) q33)
def sGrade : Sig := ⟨(Nat × (Nat → Nat → Int)) × (Nat → Int), fun x => [.c (marksCV x.1.1 x.1.2), arrTV 4 x.2], fun x => x.1.1 < 4611686018427387904, fun x => [.v (intC (gradeN x.1.1 x.1.2 x.2)), .v (intC (gradeE x.1.1 x.1.2 x.2))]⟩
def aGd (t n : Nat) (m : Nat → Nat → Int) (b : Nat → Int) : Ann := { G := Nat, ok := fun _ i => i ≤ n ∧ ∀ k, k < i → reach (m k) b = false, dom := fun _ => [], tm := fun _ i => [(t, .t (intC i))], hp := fun _ _ => [], mu := fun _ i => n - i }
theorem q13 (x : sGrade.α) (h : sGrade.pre x) : CallQ Try.prog E0 13 (sGrade.arg x) (sGrade.res x) := by
 obtain ⟨⟨n, m⟩, b⟩ := x
 refine bare_all E0_ok TG1 TG1_ok V5 V5_ok runs [(13, 7, aGd 19 n m b)] [] [] [] (fuel := 5) ?_
 refine of_red (q := ∃ (x : Nat × (Nat→Nat→Int)), ((True∧True∧n = x.fst∧∀ (i : Nat), i < n→(((((((True∧(n, m).snd i 0 = x.snd i 0)∧(n, m).snd i 1 = x.snd i 1)∧(n, m).snd i 2 = x.snd i 2)∧(n, m).snd i 3 = x.snd i 3)∧(n, m).snd i 4 = x.snd i 4)∧(n, m).snd i 5 = x.snd i 5)∧(n, m).snd i 6 = x.snd i 6)∧(n, m).snd i 7 = x.snd i 7)∧True)∧x.fst < (4611686018427387904 : Nat)∧((!marksOk x.fst x.snd) = true→(True∧(0 : Int) = gradeN (n, m).fst (n, m).snd b)∧(True∧(70 : Int) = gradeE (n, m).fst (n, m).snd b)∧True)∧((!marksOk x.fst x.snd) = false→∃ (x : Nat→Int), ((True∧(((True∧True∧b 0 = x 0)∧True∧b 1 = x 1)∧True∧b 2 = x 2)∧True∧b 3 = x 3)∧True)∧True∧((!barOk x) = true→(True∧(0 : Int) = gradeN (n, m).fst (n, m).snd b)∧(True∧(73 : Int) = gradeE (n, m).fst (n, m).snd b)∧True)∧((!barOk x) = false→(∃ (g : Nat), (g≤n∧∀ (k : Nat), k < g→reach (m k) b = false)∧True∧((True∧(0 : Int) = (↑g : Int))∧True)∧True)∧∀ (g : Nat), (g≤n∧∀ (k : Nat), k < g→reach (m k) b = false)→(decide ((↑g : Int) < (↑n : Int)) = true→(0 : Int)≤(↑g : Int)∧(↑g : Int) < (↑n : Int)∧∃ (x : (Nat→Int) × (Nat→Int)), ((True∧(((((((True∧True∧(n, m).snd g 0 = x.fst 0)∧True∧(n, m).snd g 1 = x.fst 1)∧True∧(n, m).snd g 2 = x.fst 2)∧True∧(n, m).snd g 3 = x.fst 3)∧True∧(n, m).snd g 4 = x.fst 4)∧True∧(n, m).snd g 5 = x.fst 5)∧True∧(n, m).snd g 6 = x.fst 6)∧True∧(n, m).snd g 7 = x.fst 7)∧(True∧(((True∧True∧b 0 = x.snd 0)∧True∧b 1 = x.snd 1)∧True∧b 2 = x.snd 2)∧True∧b 3 = x.snd 3)∧True)∧markOk x.fst = true∧((!!reach x.fst x.snd) = true→(True∧(↑g : Int) = gradeN (n, m).fst (n, m).snd b)∧(True∧(0 : Int) = gradeE (n, m).fst (n, m).snd b)∧True)∧((!!reach x.fst x.snd) = false→inRange IntKind.i64 ((↑g : Int) + (1 : Int))∧∃ (g' : Nat), (g'≤n∧∀ (k : Nat), k < g'→reach (m k) b = false)∧n - g' < n - g∧True∧((True∧(↑g : Int) + (1 : Int) = (↑g' : Int))∧True)∧True))∧(decide ((↑g : Int) < (↑n : Int)) = false→(True∧(0 : Int) = gradeN (n, m).fst (n, m).snd b)∧(True∧(4 : Int) = gradeE (n, m).fst (n, m).snd b)∧True)))) (by kernel_rfl) ?_
 have h : n < 4611686018427387904 := h
 simp only [true_and, and_true, inR, Prod.exists, Prod.forall, and_assoc, exists_and_left, exists_eq_left', exists_eq_left, forall_eq, exists_const, forall_const, loopN, loopM, fa2, fas, fas2, dup1, dup2, dup3, dup4, ite_true, exhs, exhn, exhz, exho, exA, ex1, ex2, ex3, ex4, ex5, beqI, bneI, decide_true, Bool.true_and, decide_eq_true_eq, decide_eq_false_iff_not, ne_eq, Decidable.not_not]
 refine ⟨m, fun _ _ => ⟨rfl, rfl, rfl, rfl, rfl, rfl, rfl, rfl⟩, h, fun h1 => grade_70 (by simpa using h1), fun h1 => ?_⟩
 have h1 : marksOk n m = true := by simpa using h1
 refine ⟨b, rfl, rfl, rfl, rfl, fun h2 => grade_73 h1 (by simpa using h2), fun h2 => ?_⟩
 have h2 : barOk b = true := by simpa using h2
 have mk : ∀ i, i < n → markOk (m i) = true := fun i hi => by
   have : (within n 1 5 && allB n fun k => markOk (m k)) = true := h1
   exact allB_iff.1 (Bool.and_eq_true_iff.1 this).2 i hi
 refine ⟨Nat.zero_le _, fun k hk => absurd hk (Nat.not_lt_zero k), fun i hi hpre => ⟨by omega, by omega, m i, rfl, rfl, rfl, rfl, rfl, rfl, rfl, rfl, b, rfl, rfl, rfl, rfl, mk i hi, fun h3 => grade_0 h1 h2 hi hpre (by simpa using h3), fun h3 => ⟨by omega, by omega, by omega, fun k hk => ?_, by omega⟩⟩, fun hall => grade_4 h1 h2 hall⟩
 by_cases e : k = i
 · subst e; simpa using h3
 · exact hpre k (by omega)
end Go.Proofs.Ytpigkgoooekcgaa
