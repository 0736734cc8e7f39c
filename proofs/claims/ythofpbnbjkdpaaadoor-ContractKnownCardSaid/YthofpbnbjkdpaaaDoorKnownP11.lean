/- Texts for the law of the last part, part 11. -/
import Derived.Test.YthofpbnbjkdpaaaDoorKnownP10
set_option linter.unusedSimpArgs false
set_option linter.unusedVariables false
namespace Go.Proofs.YthofpbnbjkdpaaaDoor
open Go Go.Sx Cm
set_option maxRecDepth 100000
def TC : List (Nat × Sig) := (48, sHas') :: (34, sHas) :: (46, sHas) :: (18, sCheck) :: TB0
theorem TC_ok : SigsOk Tryd.prog E0 TC := (((TB0_ok.cons (runs 18 (by kernel_rfl)) q18).cons (runs 46 (by kernel_rfl)) q46).cons (runs 34 (by kernel_rfl)) q34).cons (runs 48 (by kernel_rfl)) q48
def aWhole (b : Book) : Ann := { G := Nat, ok := fun _ i => i ≤ b.nd, dom := fun st => [st.nx], tm := fun st i => [(3, .t (.c (.os st.nx 1 i))), (4, .t (intC i))], hp := fun st i => [(st.nx, .slot 3, some (.row 3 1 i (fun j _ => .int .i64 (b.due j))))], mu := fun _ i => b.nd - i }
def sWhole : Sig := ⟨Book, fun b => [bookTV b], fun b => Good b, fun b => [.own 3 1 b.nd (fun j _ => .int .i64 (b.due j))]⟩
theorem q55 (b : sWhole.α) (h : sWhole.pre b) : CallQ Tryd.prog E0 55 (sWhole.arg b) (sWhole.res b) := by
 refine bare_with E0_ok TC TC_ok runs [(55, 3, aWhole b)] [] (fuel := 5) ?_
 refine of_red (q := (∃ (g : Nat), g≤b.nd∧True∧((True∧g = (0 : Nat))∧(True∧(0 : Int) = (↑g : Int))∧True)∧g = (0 : Nat)∧True)∧∀ (g : Nat), g≤b.nd→(decide ((↑g : Int) < (↑b.nd : Int)) = true→(0 : Int)≤(↑g : Int)∧(↑g : Int) < (↑b.nd : Int)∧(g + (1 : Nat)) * (8 : Nat)≤(140737488355328 : Nat)∧g + (1 : Nat) < (4611686018427387904 : Nat)∧inRange IntKind.i64 ((↑g : Int) + (1 : Int))∧∃ (g' : Nat), g'≤b.nd∧b.nd - g' < b.nd - g∧True∧((True∧True∧g + (1 : Nat) = g')∧(True∧(↑g : Int) + (1 : Int) = (↑g' : Int))∧True)∧(True∧True∧g + (1 : Nat) = g'∧∀ (i : Nat), i < g + (1 : Nat)→True∧(if i < g then b.due i else if i - g = ((0 : Nat), Operand.tmp (18 : Nat)).fst then b.due g else (0 : Int)) = b.due i)∧True)∧(decide ((↑g : Int) < (↑b.nd : Int)) = false→True∧g = b.nd∧True∧True∧g = b.nd∧∀ (i : Nat), i < g→True∧b.due i = b.due i)) (by kernel_rfl) ?_
 simp only [true_and, and_true, inR, Prod.exists, Prod.forall, and_assoc, exists_and_left, exists_eq_left', exists_eq_left, forall_eq, exists_const, forall_const, loopN, loopM, fa2, fas, fas2, exhs, exhn, exhz, exho, exA, ex1, ex2, ex3, ex4, ex5, beqI, bneI, decide_true, Bool.true_and, decide_eq_true_eq, decide_eq_false_iff_not, ne_eq, Decidable.not_not]
 have hn := h.nd
 refine ⟨by omega, rfl, fun i hi => ⟨by omega, by omega, by omega, by omega, by omega, by omega, i + 1, by omega, by omega, rfl, by omega, rfl, fun j hj => stApp rfl hj⟩, fun _ _ => trivial⟩
def aPay1 (b : Book) (s : Nat) (p : Nat → Int) : Ann := { G := Nat, ok := fun _ i => i ≤ b.nd, dom := fun st => [osN (st.tm 7)], tm := fun _ i => [(8, .t (intC i))], hp := fun st i => [(osN (st.tm 7), .self, some (.row 3 1 b.nc (fun j _ => .int .i64 (has b s j + gets b p j i))))], mu := fun _ i => b.nd - i }
def aPay2 (b : Book) (s : Nat) (p : Nat → Int) : Ann := { G := Nat, ok := fun _ i => i ≤ b.nd, dom := fun st => [osN (st.tm 7), st.nx], tm := fun st i => [(9, .t (.c (.os st.nx 1 i))), (10, .t (intC i))], hp := fun st i => [(osN (st.tm 7), .self, some (.row 3 1 b.nc (fun j _ => .int .i64 (left b s p j i)))), (st.nx, .slot 9, some (.row 3 1 i (fun j _ => .int .i64 (pay b s p j))))], mu := fun _ i => b.nd - i }
def sPay : Sig := ⟨(Book × Nat) × (Nat → Int), fun x => [bookTV x.1.1, intC x.1.2, .c (nums x.1.1.nd x.2)], fun x => Good x.1.1 ∧ x.1.2 < x.1.1.ns ∧ Pays x.1.1 x.2, fun x => [.own 3 1 x.1.1.nd (fun j _ => .int .i64 (pay x.1.1 x.1.2 x.2 j))]⟩
theorem q56 (x : sPay.α) (h : sPay.pre x) : CallQ Tryd.prog E0 56 (sPay.arg x) (sPay.res x) := by
 obtain ⟨⟨b, s⟩, p⟩ := x
 refine bare_with E0_ok TC TC_ok runs [(56, 3, aPay1 b s p), (56, 8, aPay2 b s p)] [] (fuel := 5) ?_
 refine of_red (q := ∃ (x : Book × Nat), ((True∧((True∧True∧True∧(b, s).fst.nc = x.fst.nc∧∀ (i : Nat), i < (b, s).fst.nc→True∧(b, s).fst.cash i = x.fst.cash i)∧True∧True∧(b, s).fst.nd = x.fst.nd∧∀ (i : Nat), i < (b, s).fst.nd→((True∧(b, s).fst.frm i = x.fst.frm i)∧(b, s).fst.to i = x.fst.to i)∧(b, s).fst.due i = x.fst.due i)∧True∧True∧(b, s).fst.ns = x.fst.ns∧∀ (i : Nat), i < (b, s).fst.ns→(True∧(b, s).fst.price i = x.fst.price i)∧True∧(b, s).fst.nb i = x.fst.nb i∧∀ (i_1 : Nat), i_1 < (b, s).fst.nb i→True∧(b, s).fst.bar i i_1 = x.fst.bar i i_1)∧(True∧(↑s : Int) = (↑x.snd : Int))∧True)∧(Good x.fst∧x.snd < x.fst.ns)∧(∃ (g : Nat), g≤b.nd∧True∧((True∧(0 : Int) = (↑g : Int))∧True)∧(True∧True∧x.fst.nc = b.nc∧∀ (i : Nat), i < x.fst.nc→True∧has x.fst x.snd i = has b s i + gets b p (↑i : Int) g)∧True)∧∀ (g : Nat), g≤b.nd→(decide ((↑g : Int) < (↑b.nd : Int)) = true→(0 : Int)≤(↑g : Int)∧(↑g : Int) < (↑b.nd : Int)∧(0 : Int)≤b.to g∧b.to g < (↑x.fst.nc : Int)∧(0 : Int)≤(↑g : Int)∧(↑g : Int) < (↑b.nd : Int)∧inRange IntKind.i64 (has b s (b.to g).toNat + gets b p (↑(b.to g).toNat : Int) g + ((b, s), p).snd g)∧(0 : Int)≤b.to g∧b.to g < (↑x.fst.nc : Int)∧inRange IntKind.i64 ((↑g : Int) + (1 : Int))∧∃ (g' : Nat), g'≤b.nd∧b.nd - g' < b.nd - g∧True∧((True∧(↑g : Int) + (1 : Int) = (↑g' : Int))∧True)∧(True∧True∧b.nc = b.nc∧∀ (i : Nat), i < b.nc→True∧(if i = (b.to g).toNat then has b s (b.to g).toNat + gets b p (↑(b.to g).toNat : Int) g + ((b, s), p).snd g else has b s i + gets b p (↑i : Int) g) = has b s i + gets b p (↑i : Int) g')∧True)∧(decide ((↑g : Int) < (↑b.nd : Int)) = false→(∃ (g_1 : Nat), g_1≤b.nd∧True∧((True∧g_1 = (0 : Nat))∧(True∧(0 : Int) = (↑g_1 : Int))∧True)∧(True∧True∧b.nc = b.nc∧∀ (i : Nat), i < b.nc→True∧has b s i + gets b p (↑i : Int) g = left b s p (↑i : Int) g_1)∧g_1 = (0 : Nat)∧True)∧∀ (g : Nat), g≤b.nd→(decide ((↑g : Int) < (↑b.nd : Int)) = true→(0 : Int)≤(↑g : Int)∧(↑g : Int) < (↑b.nd : Int)∧(0 : Int)≤b.frm g∧b.frm g < (↑x.fst.nc : Int)∧(0 : Int)≤b.frm g∧b.frm g < (↑x.fst.nc : Int)∧inRange IntKind.i64 (left b s p (↑(b.frm g).toNat : Int) g - imin (left b s p (↑(b.frm g).toNat : Int) g) (b.due g))∧(0 : Int)≤b.frm g∧b.frm g < (↑x.fst.nc : Int)∧(g + (1 : Nat)) * (8 : Nat)≤(140737488355328 : Nat)∧g + (1 : Nat) < (4611686018427387904 : Nat)∧inRange IntKind.i64 ((↑g : Int) + (1 : Int))∧∃ (g' : Nat), g'≤b.nd∧b.nd - g' < b.nd - g∧True∧((True∧True∧g + (1 : Nat) = g')∧(True∧(↑g : Int) + (1 : Int) = (↑g' : Int))∧True)∧(True∧True∧b.nc = b.nc∧∀ (i : Nat), i < b.nc→True∧(if i = (b.frm g).toNat then left b s p (↑(b.frm g).toNat : Int) g - imin (left b s p (↑(b.frm g).toNat : Int) g) (b.due g) else left b s p (↑i : Int) g) = left b s p (↑i : Int) g')∧(True∧True∧g + (1 : Nat) = g'∧∀ (i : Nat), i < g + (1 : Nat)→True∧(if i < g then pay b s p i else if i - g = ((0 : Nat), Operand.tmp (67 : Nat)).fst then imin (left b s p (↑(b.frm g).toNat : Int) g) (b.due g) else (0 : Int)) = pay b s p i)∧True)∧(decide ((↑g : Int) < (↑b.nd : Int)) = false→True∧g = (b, s).fst.nd∧True∧True∧g = (b, s).fst.nd∧∀ (i : Nat), i < g→True∧pay b s p i = pay (b, s).fst (b, s).snd p i))) (by kernel_rfl) ?_
 simp only [true_and, and_true, inR, Prod.exists, Prod.forall, and_assoc, exists_and_left, exists_eq_left', exists_eq_left, forall_eq, exists_const, forall_const, loopN, loopM, fa2, fas, fas2, exhs, exhn, exhz, exho, exA, ex1, ex2, ex3, ex4, ex5, beqI, bneI, decide_true, Bool.true_and, decide_eq_true_eq, decide_eq_false_iff_not, ne_eq, Decidable.not_not]
 obtain ⟨hg, hs, hp⟩ : Good b ∧ s < b.ns ∧ Pays b p := h
 have hn := hg.nd
 refine ⟨b, rfl, fun _ _ => rfl, rfl, fun _ _ => ⟨rfl, rfl, rfl⟩, rfl, fun _ _ => ⟨rfl, rfl, fun _ _ => rfl⟩, hg, hs, ⟨0, by omega, rfl, rfl, fun i hi => by simp [gets, sumN]⟩, fun i hi => ?_, by omega, rfl, fun i hi => ?_, fun i hi => ?_, fun _ _ => trivial⟩
 · have ht := hg.to i hi
   have h1 := has_bd hg hs (p := (b.to i).toNat) (by omega)
   have h2 := gets_bd hg hp ((b.to i).toNat : Nat) i (by omega)
   have h3 := hp i hi
   have h4 := hg.due i hi
   refine ⟨by omega, by omega, by omega, by omega, by omega, by omega, by omega, by omega, by omega, by omega, by omega, by omega, i + 1, by omega, by omega, by omega, fun j hj => ?_⟩
   rw [gets_succ]
   by_cases e : j = (b.to i).toNat
   · subst e; rw [if_pos rfl, if_pos (by omega)]; omega
   · rw [if_neg e, if_neg (by omega)]; omega
 · rw [left_zero hg hs hp (by omega)]; rfl
 · have hf := hg.frm i hi
   have h4 := hg.due i hi
   have e1 := toNat_cast hf.1
   rw [e1]
   have h1 := left_bd hg hs hp hf (k := i) (by omega)
   have e2 : imin (left b s p (b.frm i) i) (b.due i) = pay b s p i := imin_eq _ _
   have h2 := pays_pay hg (s := s) (p := p) i hi
   rw [e2]
   refine ⟨by omega, by omega, by omega, by omega, by omega, by omega, by omega, by omega, by omega, by omega, by omega, by omega, by omega, by omega, i + 1, by omega, by omega, rfl, by omega, fun j hj => ?_, rfl, fun j hj => stApp rfl hj⟩
   by_cases e : j = (b.frm i).toNat
   · subst e; rw [if_pos rfl, e1, left_own hg hi]
   · rw [if_neg e, left_other (by omega)]
def sOf (w : Bool) : Sig := ⟨Int × Int × Int, fun d => [.a 3 (ofList [.int .i64 d.1, .int .i64 d.2.1, .int .i64 d.2.2])], fun _ => True, fun d => [.v (intC (bif w then d.1 else d.2.1))]⟩
theorem q77 (x : (sOf false).α) : CallQ Tryd.prog E0 77 ((sOf false).arg x) ((sOf false).res x) := by
 refine bare_with E0_ok TC TC_ok runs [] [] (fuel := 5) ?_
 refine of_red (q := True∧x.snd.fst = bif false then x.fst else x.snd.fst) (by kernel_rfl) ?_
 simp
theorem q78 (x : (sOf true).α) : CallQ Tryd.prog E0 78 ((sOf true).arg x) ((sOf true).res x) := by
 refine bare_with E0_ok TC TC_ok runs [] [] (fuel := 5) ?_
 refine of_red (q := True∧x.fst = bif true then x.fst else x.snd.fst) (by kernel_rfl) ?_
 simp
def paidTV (n : Nat) (p : Nat → Int) : TV := .a 12 (fun j => .int .i64 (if j < n then p j else 0))
def aAll (b : Book) : Ann := { G := Nat, ok := fun _ i => i ≤ b.nd, dom := fun st => [osN (st.tm 3)], tm := fun _ i => [(10, .t (intC i))], hp := fun st i => [(osN (st.tm 3), .self, some (.box 12 (fun j => .int .i64 (if j < i then b.due j else 0))))], mu := fun _ i => b.nd - i }
def sAll : Sig := ⟨Book, fun b => [bookTV b], fun b => Good b, fun b => [.v (paidTV b.nd b.due)]⟩
theorem q49 (b : sAll.α) (h : sAll.pre b) : CallQ Tryd.prog E0 49 (sAll.arg b) (sAll.res b) := by
 refine bare_with E0_ok TC TC_ok runs [(49, 3, aAll b)] [] (fuel := 5) ?_
 refine of_red (q := (∃ (g : Nat), g≤b.nd∧True∧((True∧(0 : Int) = (↑g : Int))∧True)∧(True∧(((((((((((True∧True∧(0 : Int) = if nat_lit 0 < g then b.due 0 else (0 : Int))∧True∧(0 : Int) = if nat_lit 1 < g then b.due 1 else (0 : Int))∧True∧(0 : Int) = if nat_lit 2 < g then b.due 2 else (0 : Int))∧True∧(0 : Int) = if nat_lit 3 < g then b.due 3 else (0 : Int))∧True∧(0 : Int) = if nat_lit 4 < g then b.due 4 else (0 : Int))∧True∧(0 : Int) = if nat_lit 5 < g then b.due 5 else (0 : Int))∧True∧(0 : Int) = if nat_lit 6 < g then b.due 6 else (0 : Int))∧True∧(0 : Int) = if nat_lit 7 < g then b.due 7 else (0 : Int))∧True∧(0 : Int) = if nat_lit 8 < g then b.due 8 else (0 : Int))∧True∧(0 : Int) = if nat_lit 9 < g then b.due 9 else (0 : Int))∧True∧(0 : Int) = if nat_lit 10 < g then b.due 10 else (0 : Int))∧True∧(0 : Int) = if nat_lit 11 < g then b.due 11 else (0 : Int))∧True)∧∀ (g : Nat), g≤b.nd→(decide ((↑g : Int) < (↑b.nd : Int)) = true→(0 : Int)≤(↑g : Int)∧(↑g : Int) < (↑b.nd : Int)∧(0 : Int)≤(↑g : Int)∧(↑g : Int) < (↑(12 : Nat) : Int)∧inRange IntKind.i64 ((↑g : Int) + (1 : Int))∧∃ (g' : Nat), g'≤b.nd∧b.nd - g' < b.nd - g∧True∧((True∧(↑g : Int) + (1 : Int) = (↑g' : Int))∧True)∧(True∧(((((((((((True∧True∧(if nat_lit 0 = (0 : Nat) + g * (1 : Nat) + (0 : Nat) then b.due g else if nat_lit 0 < g then b.due 0 else (0 : Int)) = if nat_lit 0 < g' then b.due 0 else (0 : Int))∧True∧(if nat_lit 1 = (0 : Nat) + g * (1 : Nat) + (0 : Nat) then b.due g else if nat_lit 1 < g then b.due 1 else (0 : Int)) = if nat_lit 1 < g' then b.due 1 else (0 : Int))∧True∧(if nat_lit 2 = (0 : Nat) + g * (1 : Nat) + (0 : Nat) then b.due g else if nat_lit 2 < g then b.due 2 else (0 : Int)) = if nat_lit 2 < g' then b.due 2 else (0 : Int))∧True∧(if nat_lit 3 = (0 : Nat) + g * (1 : Nat) + (0 : Nat) then b.due g else if nat_lit 3 < g then b.due 3 else (0 : Int)) = if nat_lit 3 < g' then b.due 3 else (0 : Int))∧True∧(if nat_lit 4 = (0 : Nat) + g * (1 : Nat) + (0 : Nat) then b.due g else if nat_lit 4 < g then b.due 4 else (0 : Int)) = if nat_lit 4 < g' then b.due 4 else (0 : Int))∧True∧(if nat_lit 5 = (0 : Nat) + g * (1 : Nat) + (0 : Nat) then b.due g else if nat_lit 5 < g then b.due 5 else (0 : Int)) = if nat_lit 5 < g' then b.due 5 else (0 : Int))∧True∧(if nat_lit 6 = (0 : Nat) + g * (1 : Nat) + (0 : Nat) then b.due g else if nat_lit 6 < g then b.due 6 else (0 : Int)) = if nat_lit 6 < g' then b.due 6 else (0 : Int))∧True∧(if nat_lit 7 = (0 : Nat) + g * (1 : Nat) + (0 : Nat) then b.due g else if nat_lit 7 < g then b.due 7 else (0 : Int)) = if nat_lit 7 < g' then b.due 7 else (0 : Int))∧True∧(if nat_lit 8 = (0 : Nat) + g * (1 : Nat) + (0 : Nat) then b.due g else if nat_lit 8 < g then b.due 8 else (0 : Int)) = if nat_lit 8 < g' then b.due 8 else (0 : Int))∧True∧(if nat_lit 9 = (0 : Nat) + g * (1 : Nat) + (0 : Nat) then b.due g else if nat_lit 9 < g then b.due 9 else (0 : Int)) = if nat_lit 9 < g' then b.due 9 else (0 : Int))∧True∧(if nat_lit 10 = (0 : Nat) + g * (1 : Nat) + (0 : Nat) then b.due g else if nat_lit 10 < g then b.due 10 else (0 : Int)) = if nat_lit 10 < g' then b.due 10 else (0 : Int))∧True∧(if nat_lit 11 = (0 : Nat) + g * (1 : Nat) + (0 : Nat) then b.due g else if nat_lit 11 < g then b.due 11 else (0 : Int)) = if nat_lit 11 < g' then b.due 11 else (0 : Int))∧True)∧(decide ((↑g : Int) < (↑b.nd : Int)) = false→True∧(((((((((((True∧True∧(if nat_lit 0 < g then b.due 0 else (0 : Int)) = if nat_lit 0 < b.nd then b.due 0 else (0 : Int))∧True∧(if nat_lit 1 < g then b.due 1 else (0 : Int)) = if nat_lit 1 < b.nd then b.due 1 else (0 : Int))∧True∧(if nat_lit 2 < g then b.due 2 else (0 : Int)) = if nat_lit 2 < b.nd then b.due 2 else (0 : Int))∧True∧(if nat_lit 3 < g then b.due 3 else (0 : Int)) = if nat_lit 3 < b.nd then b.due 3 else (0 : Int))∧True∧(if nat_lit 4 < g then b.due 4 else (0 : Int)) = if nat_lit 4 < b.nd then b.due 4 else (0 : Int))∧True∧(if nat_lit 5 < g then b.due 5 else (0 : Int)) = if nat_lit 5 < b.nd then b.due 5 else (0 : Int))∧True∧(if nat_lit 6 < g then b.due 6 else (0 : Int)) = if nat_lit 6 < b.nd then b.due 6 else (0 : Int))∧True∧(if nat_lit 7 < g then b.due 7 else (0 : Int)) = if nat_lit 7 < b.nd then b.due 7 else (0 : Int))∧True∧(if nat_lit 8 < g then b.due 8 else (0 : Int)) = if nat_lit 8 < b.nd then b.due 8 else (0 : Int))∧True∧(if nat_lit 9 < g then b.due 9 else (0 : Int)) = if nat_lit 9 < b.nd then b.due 9 else (0 : Int))∧True∧(if nat_lit 10 < g then b.due 10 else (0 : Int)) = if nat_lit 10 < b.nd then b.due 10 else (0 : Int))∧True∧(if nat_lit 11 < g then b.due 11 else (0 : Int)) = if nat_lit 11 < b.nd then b.due 11 else (0 : Int))) (by kernel_rfl) ?_
 simp only [true_and, and_true, inR, Prod.exists, Prod.forall, and_assoc, exists_and_left, exists_eq_left', exists_eq_left, forall_eq, exists_const, forall_const, loopN, loopM, fa2, fas, fas2, exhs, exhn, exhz, exho, exA, ex1, ex2, ex3, ex4, ex5, beqI, bneI, decide_true, Bool.true_and, decide_eq_true_eq, decide_eq_false_iff_not, ne_eq, Decidable.not_not]
 have hn := h.nd
 refine ⟨⟨0, by omega, rfl, by simp⟩, fun i hi => ⟨by omega, by omega, by omega, by omega, by omega, by omega, i + 1, by omega, by omega, by omega, ?_⟩⟩
 refine ⟨?_, ?_, ?_, ?_, ?_, ?_, ?_, ?_, ?_, ?_, ?_, ?_⟩ <;> exact st12 rfl
end Go.Proofs.YthofpbnbjkdpaaaDoor
namespace Go.Proofs.YthofpbnbjkdpaaaDoor
open Go Go.Sx Cm
set_option maxRecDepth 100000
def TD : List (Nat × Sig) := (49, sAll) :: (78, sOf true) :: (77, sOf false) :: (56, sPay) :: (55, sWhole) :: TC
theorem TD_ok : SigsOk Tryd.prog E0 TD := ((((TC_ok.cons (runs 55 (by kernel_rfl)) q55).cons (runs 56 (by kernel_rfl)) q56).cons (runs 77 (by kernel_rfl)) fun x _ => q77 x).cons (runs 78 (by kernel_rfl)) fun x _ => q78 x).cons (runs 49 (by kernel_rfl)) q49
def sel (b : Book) (w : Bool) (x : Int) (p : Nat → Int) (k : Nat) : List Int := ((List.range k).filter (fun i => decide ((bif w then b.frm i else b.to i) = x))).map p
theorem sel_succ {b : Book} {w : Bool} {x : Int} {p : Nat → Int} {k : Nat} : sel b w x p (k + 1) = if (bif w then b.frm k else b.to k) = x then sel b w x p k ++ [p k] else sel b w x p k := by
 unfold sel
 rw [List.range_succ, List.filter_append, List.map_append]
 by_cases h : (bif w then b.frm k else b.to k) = x <;> simp [h, List.filter_cons]
theorem sel_len {b : Book} {w : Bool} {x : Int} {p : Nat → Int} : ∀ {k : Nat}, (sel b w x p k).length ≤ k
 | 0 => by simp [sel]
 | k + 1 => by
   have := sel_len (b := b) (w := w) (x := x) (p := p) (k := k)
   rw [sel_succ]; split
   · simp; omega
   · omega
theorem sel_mem {b : Book} {p : Nat → Int} (hp : Pays b p) (hg : Good b) {w : Bool} {x : Int} {k : Nat} (hk : k ≤ b.nd) : ∀ y ∈ sel b w x p k, 0 ≤ y ∧ y ≤ 10000 := by
 intro y hy
 unfold sel at hy
 obtain ⟨i, hi, rfl⟩ := List.mem_map.1 hy
 have hi := (List.mem_filter.1 hi).1
 have hi := List.mem_range.1 hi
 have h1 := hp i (by omega)
 have h2 := hg.due i (by omega)
 omega
theorem sumL_append {l m : List Int} : sumN (l ++ m).length (fun i => (l ++ m).getD i 0) = sumN l.length (fun i => l.getD i 0) + sumN m.length (fun i => m.getD i 0) := by
 induction m generalizing l with
 | nil => simp [sumN]
 | cons y m ih =>
   have e : l ++ y :: m = (l ++ [y]) ++ m := by simp
   have e1 : sumN (l ++ [y]).length (fun i => (l ++ [y]).getD i 0) = sumN l.length (fun i => l.getD i 0) + y := by
     simp only [List.length_append, List.length_singleton, sumN]
     congr 1
     · exact sumN_congr fun i hi => by simp [List.getD_eq_getElem?_getD, List.getElem?_append_left hi]
     · simp
   have e2 : sumN (y :: m).length (fun i => (y :: m).getD i 0) = y + sumN m.length (fun i => m.getD i 0) := by
     clear ih e e1
     have : ∀ k, sumN (k + 1) (fun i => (y :: m).getD i 0) = y + sumN k (fun i => m.getD i 0) := by
       intro k
       induction k with
       | zero => simp [sumN]
       | succ k ih => rw [show sumN (k + 1 + 1) (fun i => (y :: m).getD i 0) = sumN (k + 1) (fun i => (y :: m).getD i 0) + (y :: m).getD (k + 1) 0 from rfl, ih]; simp [sumN]; omega
     exact this m.length
   rw [e, ih, e1, e2]; omega
theorem sel_sum {b : Book} {w : Bool} {x : Int} {p : Nat → Int} : ∀ {k : Nat}, sumN (sel b w x p k).length (fun i => (sel b w x p k).getD i 0) = bif w then owes b p x k else gets b p x k
 | 0 => by cases w <;> rfl
 | k + 1 => by
   have ih := sel_sum (b := b) (w := w) (x := x) (p := p) (k := k)
   rw [sel_succ]
   by_cases h : (bif w then b.frm k else b.to k) = x
   · rw [if_pos h, sumL_append, ih]
     cases w <;> simp_all [owes, gets, sumN]
   · rw [if_neg h, ih]
     cases w <;> simp_all [owes, gets, sumN]
def aTot (b : Book) (w : Bool) (x : Int) (p : Nat → Int) : Ann := { G := Nat, ok := fun _ i => i ≤ b.nd, dom := fun st => [20, st.nx], tm := fun _ i => [(9, .t (intC i))], hp := fun st i => [(20, .self, some (.box 1 (fun _ => .os st.nx 1 (sel b w x p i).length))), (st.nx, .box 20 0, some (.row 3 1 (sel b w x p i).length (fun j _ => .int .i64 ((sel b w x p i).getD j 0))))], mu := fun _ i => b.nd - i }
def sTot : Sig := ⟨(Book × Int) × Bool × (Nat → Int), fun x => [bookTV x.1.1, intC x.1.2, .a 1 (fun _ => .fn (bif x.2.1 then 78 else 77) [] (fun _ _ => .any) 0 (fun _ => .any)), paidTV x.1.1.nd x.2.2], fun x => Good x.1.1 ∧ Pays x.1.1 x.2.2, fun x => [.v (intC (bif x.2.1 then owes x.1.1 x.2.2 x.1.2 x.1.1.nd else gets x.1.1 x.2.2 x.1.2 x.1.1.nd))]⟩
theorem q47a (b : Book) (x : Int) (p : Nat → Int) (h : Good b ∧ Pays b p) : CallQ Tryd.prog E0 47 (sTot.arg ((b, x), false, p)) (sTot.res ((b, x), false, p)) := by
 refine bare_with E0_ok TD TD_ok runs [(59, 1, aTot b false x p)] [] (fuel := 6) ?_
 refine of_red (q := (∃ (g : Nat), g≤b.nd∧True∧((True∧(0 : Int) = (↑g : Int))∧True)∧(True∧True∧True∧(sel b false x p g).length = (0 : Nat))∧(sel b false x p g).length = (0 : Nat)∧True)∧∀ (g : Nat), g≤b.nd→(decide ((↑g : Int) < (↑b.nd : Int)) = true→(0 : Int)≤(↑g : Int)∧(↑g : Int) < (↑b.nd : Int)∧∃ (x_1 : Int × Int × Int), ((True∧((True∧True∧(b, x).fst.frm g = x_1.fst)∧True∧(b, x).fst.to g = x_1.snd.fst)∧True∧(b, x).fst.due g = x_1.snd.snd)∧True)∧True∧(((bif false then x_1.fst else x_1.snd.fst) == x) = true→(0 : Int)≤(↑g : Int)∧(↑g : Int) < (↑(12 : Nat) : Int)∧((sel b false x p g).length + (1 : Nat)) * (8 : Nat)≤(140737488355328 : Nat)∧(sel b false x p g).length + (1 : Nat) < (4611686018427387904 : Nat)∧(((bif false then x_1.fst else x_1.snd.fst) == x) = true→(((bif false then x_1.fst else x_1.snd.fst) == x) = true→inRange IntKind.i64 ((↑g : Int) + (1 : Int))∧∃ (g' : Nat), g'≤b.nd∧b.nd - g' < b.nd - g∧True∧((True∧(↑g : Int) + (1 : Int) = (↑g' : Int))∧True)∧(True∧True∧True∧True∧(sel b false x p g).length + (1 : Nat) = (sel b false x p g').length)∧(True∧True∧(sel b false x p g).length + (1 : Nat) = (sel b false x p g').length∧∀ (i : Nat), i < (sel b false x p g).length + (1 : Nat)→True∧(if i < (sel b false x p g).length then (sel b false x p g).getD i (0 : Int) else if i - (sel b false x p g).length = (0 : Nat) then if (0 : Nat) + g * (1 : Nat) + (0 : Nat) + (0 : Nat) < b.nd then p ((0 : Nat) + g * (1 : Nat) + (0 : Nat) + (0 : Nat)) else (0 : Int) else (0 : Int)) = (sel b false x p g').getD i (0 : Int))∧True)∧(((bif false then x_1.fst else x_1.snd.fst) == x) = false→inRange IntKind.i64 ((↑g : Int) + (1 : Int))∧∃ (g' : Nat), g'≤b.nd∧b.nd - g' < b.nd - g∧True∧((True∧(↑g : Int) + (1 : Int) = (↑g' : Int))∧True)∧(True∧True∧True∧True∧(sel b false x p g).length + (1 : Nat) = (sel b false x p g').length)∧(True∧True∧(sel b false x p g).length + (1 : Nat) = (sel b false x p g').length∧∀ (i : Nat), i < (sel b false x p g).length + (1 : Nat)→True∧(if i < (sel b false x p g).length then (sel b false x p g).getD i (0 : Int) else if i - (sel b false x p g).length = (0 : Nat) then if (0 : Nat) + g * (1 : Nat) + (0 : Nat) + (0 : Nat) < b.nd then p ((0 : Nat) + g * (1 : Nat) + (0 : Nat) + (0 : Nat)) else (0 : Int) else (0 : Int)) = (sel b false x p g').getD i (0 : Int))∧True))∧(((bif false then x_1.fst else x_1.snd.fst) == x) = false→(((bif false then x_1.fst else x_1.snd.fst) == x) = true→False)∧(((bif false then x_1.fst else x_1.snd.fst) == x) = false→inRange IntKind.i64 ((↑g : Int) + (1 : Int))∧∃ (g' : Nat), g'≤b.nd∧b.nd - g' < b.nd - g∧True∧((True∧(↑g : Int) + (1 : Int) = (↑g' : Int))∧True)∧(True∧True∧True∧True∧(sel b false x p g).length + (1 : Nat) = (sel b false x p g').length)∧(True∧True∧(sel b false x p g).length + (1 : Nat) = (sel b false x p g').length∧∀ (i : Nat), i < (sel b false x p g).length + (1 : Nat)→True∧(if i < (sel b false x p g).length then (sel b false x p g).getD i (0 : Int) else if i - (sel b false x p g).length = (0 : Nat) then if (0 : Nat) + g * (1 : Nat) + (0 : Nat) + (0 : Nat) < b.nd then p ((0 : Nat) + g * (1 : Nat) + (0 : Nat) + (0 : Nat)) else (0 : Int) else (0 : Int)) = (sel b false x p g').getD i (0 : Int))∧True)))∧(((bif false then x_1.fst else x_1.snd.fst) == x) = false→(((bif false then x_1.fst else x_1.snd.fst) == x) = true→False)∧(((bif false then x_1.fst else x_1.snd.fst) == x) = false→(((bif false then x_1.fst else x_1.snd.fst) == x) = true→False)∧(((bif false then x_1.fst else x_1.snd.fst) == x) = false→inRange IntKind.i64 ((↑g : Int) + (1 : Int))∧∃ (g' : Nat), g'≤b.nd∧b.nd - g' < b.nd - g∧True∧((True∧(↑g : Int) + (1 : Int) = (↑g' : Int))∧True)∧(True∧True∧True∧True∧(sel b false x p g).length = (sel b false x p g').length)∧(True∧True∧(sel b false x p g).length = (sel b false x p g').length∧∀ (i : Nat), i < (sel b false x p g).length→True∧(sel b false x p g).getD i (0 : Int) = (sel b false x p g').getD i (0 : Int))∧True))))∧(decide ((↑g : Int) < (↑b.nd : Int)) = false→∃ (x_1 : Nat × (Nat→Int)), ((True∧True∧(sel b false x p g).length = x_1.fst∧∀ (i : Nat), i < (sel b false x p g).length→True∧(sel b false x p g).getD i (0 : Int) = x_1.snd i)∧True)∧(x_1.fst < (4611686018427387904 : Nat)∧∀ (k : Nat), k≤x_1.fst→inRange IntKind.i64 (sumN k x_1.snd))∧True∧sumN x_1.fst x_1.snd = bif (false, p).fst then owes (b, x).fst (false, p).snd (b, x).snd (b, x).fst.nd else gets (b, x).fst (false, p).snd (b, x).snd (b, x).fst.nd)) (by kernel_rfl) ?_
 simp only [true_and, and_true, inR, Prod.exists, Prod.forall, and_assoc, exists_and_left, exists_eq_left', exists_eq_left, forall_eq, exists_const, forall_const, loopN, loopM, fa2, fas, fas2, dup1, dup2, dup3, dup4, ite_true, exhs, exhn, exhz, exho, exA, ex1, ex2, ex3, ex4, ex5, beqI, bneI, decide_true, Bool.true_and, decide_eq_true_eq, decide_eq_false_iff_not, ne_eq, Decidable.not_not]
 obtain ⟨hg, hp⟩ := h
 have hn := hg.nd
 refine ⟨⟨0, by omega, rfl, rfl, rfl⟩, fun i hi => ?_, fun j => (sel b false x p b.nd).getD j 0, fun _ _ => rfl, ?_, fun k hk => ?_, sel_sum⟩
 · have hl := sel_len (b := b) (w := false) (x := x) (p := p) (k := i)
   have hs := sel_succ (b := b) (w := false) (x := x) (p := p) (k := i)
   refine ⟨by omega, by omega, fun h1 => ⟨by omega, by omega, by omega, by omega, fun _ => ⟨by omega, by omega, i + 1, by omega, by omega, by omega, ?_⟩, fun h => absurd h1 h⟩, fun h1 => ⟨by omega, by omega, i + 1, by omega, by omega, by omega, ?_⟩⟩
   · rw [if_pos h1] at hs
     rw [hs]
     refine ⟨by simp, by simp, fun j hj => ?_⟩
     by_cases e : j < (sel b false x p i).length
     · rw [if_pos e]; simp [List.getD_eq_getElem?_getD, List.getElem?_append_left e]
     · obtain rfl : j = (sel b false x p i).length := (by omega)
       rw [if_neg e, Nat.sub_self, if_pos rfl, if_pos (by omega)]
       simp
   · rw [if_neg h1] at hs
     rw [hs]
     exact ⟨rfl, rfl, fun _ _ => rfl⟩
 · have hl := sel_len (b := b) (w := false) (x := x) (p := p) (k := b.nd)
   omega
 · have hl := sel_len (b := b) (w := false) (x := x) (p := p) (k := b.nd)
   have hm : ∀ i, i < k → 0 ≤ (sel b false x p b.nd).getD i 0 ∧ (sel b false x p b.nd).getD i 0 ≤ 10000 := fun i hi => by
     have hi' : i < (sel b false x p b.nd).length := by omega
     have : (sel b false x p b.nd).getD i 0 = (sel b false x p b.nd)[i] := by simp [List.getD_eq_getElem?_getD, hi']
     rw [this]; exact sel_mem hp hg (Nat.le_refl _) _ (List.getElem_mem hi')
   have h1 := sumN_nonneg (fun i hi => (hm i hi).1)
   have h2 := sumN_bound (fun i hi => (hm i hi).2)
   have h3 : (k : Int) * 10000 ≤ 12 * 10000 := by omega
   omega
theorem q47b (b : Book) (x : Int) (p : Nat → Int) (h : Good b ∧ Pays b p) : CallQ Tryd.prog E0 47 (sTot.arg ((b, x), true, p)) (sTot.res ((b, x), true, p)) := by
 refine bare_with E0_ok TD TD_ok runs [(59, 1, aTot b true x p)] [] (fuel := 6) ?_
 refine of_red (q := (∃ (g : Nat), g≤b.nd∧True∧((True∧(0 : Int) = (↑g : Int))∧True)∧(True∧True∧True∧(sel b true x p g).length = (0 : Nat))∧(sel b true x p g).length = (0 : Nat)∧True)∧∀ (g : Nat), g≤b.nd→(decide ((↑g : Int) < (↑b.nd : Int)) = true→(0 : Int)≤(↑g : Int)∧(↑g : Int) < (↑b.nd : Int)∧∃ (x_1 : Int × Int × Int), ((True∧((True∧True∧(b, x).fst.frm g = x_1.fst)∧True∧(b, x).fst.to g = x_1.snd.fst)∧True∧(b, x).fst.due g = x_1.snd.snd)∧True)∧True∧(((bif true then x_1.fst else x_1.snd.fst) == x) = true→(0 : Int)≤(↑g : Int)∧(↑g : Int) < (↑(12 : Nat) : Int)∧((sel b true x p g).length + (1 : Nat)) * (8 : Nat)≤(140737488355328 : Nat)∧(sel b true x p g).length + (1 : Nat) < (4611686018427387904 : Nat)∧(((bif true then x_1.fst else x_1.snd.fst) == x) = true→(((bif true then x_1.fst else x_1.snd.fst) == x) = true→inRange IntKind.i64 ((↑g : Int) + (1 : Int))∧∃ (g' : Nat), g'≤b.nd∧b.nd - g' < b.nd - g∧True∧((True∧(↑g : Int) + (1 : Int) = (↑g' : Int))∧True)∧(True∧True∧True∧True∧(sel b true x p g).length + (1 : Nat) = (sel b true x p g').length)∧(True∧True∧(sel b true x p g).length + (1 : Nat) = (sel b true x p g').length∧∀ (i : Nat), i < (sel b true x p g).length + (1 : Nat)→True∧(if i < (sel b true x p g).length then (sel b true x p g).getD i (0 : Int) else if i - (sel b true x p g).length = (0 : Nat) then if (0 : Nat) + g * (1 : Nat) + (0 : Nat) + (0 : Nat) < b.nd then p ((0 : Nat) + g * (1 : Nat) + (0 : Nat) + (0 : Nat)) else (0 : Int) else (0 : Int)) = (sel b true x p g').getD i (0 : Int))∧True)∧(((bif true then x_1.fst else x_1.snd.fst) == x) = false→inRange IntKind.i64 ((↑g : Int) + (1 : Int))∧∃ (g' : Nat), g'≤b.nd∧b.nd - g' < b.nd - g∧True∧((True∧(↑g : Int) + (1 : Int) = (↑g' : Int))∧True)∧(True∧True∧True∧True∧(sel b true x p g).length + (1 : Nat) = (sel b true x p g').length)∧(True∧True∧(sel b true x p g).length + (1 : Nat) = (sel b true x p g').length∧∀ (i : Nat), i < (sel b true x p g).length + (1 : Nat)→True∧(if i < (sel b true x p g).length then (sel b true x p g).getD i (0 : Int) else if i - (sel b true x p g).length = (0 : Nat) then if (0 : Nat) + g * (1 : Nat) + (0 : Nat) + (0 : Nat) < b.nd then p ((0 : Nat) + g * (1 : Nat) + (0 : Nat) + (0 : Nat)) else (0 : Int) else (0 : Int)) = (sel b true x p g').getD i (0 : Int))∧True))∧(((bif true then x_1.fst else x_1.snd.fst) == x) = false→(((bif true then x_1.fst else x_1.snd.fst) == x) = true→False)∧(((bif true then x_1.fst else x_1.snd.fst) == x) = false→inRange IntKind.i64 ((↑g : Int) + (1 : Int))∧∃ (g' : Nat), g'≤b.nd∧b.nd - g' < b.nd - g∧True∧((True∧(↑g : Int) + (1 : Int) = (↑g' : Int))∧True)∧(True∧True∧True∧True∧(sel b true x p g).length + (1 : Nat) = (sel b true x p g').length)∧(True∧True∧(sel b true x p g).length + (1 : Nat) = (sel b true x p g').length∧∀ (i : Nat), i < (sel b true x p g).length + (1 : Nat)→True∧(if i < (sel b true x p g).length then (sel b true x p g).getD i (0 : Int) else if i - (sel b true x p g).length = (0 : Nat) then if (0 : Nat) + g * (1 : Nat) + (0 : Nat) + (0 : Nat) < b.nd then p ((0 : Nat) + g * (1 : Nat) + (0 : Nat) + (0 : Nat)) else (0 : Int) else (0 : Int)) = (sel b true x p g').getD i (0 : Int))∧True)))∧(((bif true then x_1.fst else x_1.snd.fst) == x) = false→(((bif true then x_1.fst else x_1.snd.fst) == x) = true→False)∧(((bif true then x_1.fst else x_1.snd.fst) == x) = false→(((bif true then x_1.fst else x_1.snd.fst) == x) = true→False)∧(((bif true then x_1.fst else x_1.snd.fst) == x) = false→inRange IntKind.i64 ((↑g : Int) + (1 : Int))∧∃ (g' : Nat), g'≤b.nd∧b.nd - g' < b.nd - g∧True∧((True∧(↑g : Int) + (1 : Int) = (↑g' : Int))∧True)∧(True∧True∧True∧True∧(sel b true x p g).length = (sel b true x p g').length)∧(True∧True∧(sel b true x p g).length = (sel b true x p g').length∧∀ (i : Nat), i < (sel b true x p g).length→True∧(sel b true x p g).getD i (0 : Int) = (sel b true x p g').getD i (0 : Int))∧True))))∧(decide ((↑g : Int) < (↑b.nd : Int)) = false→∃ (x_1 : Nat × (Nat→Int)), ((True∧True∧(sel b true x p g).length = x_1.fst∧∀ (i : Nat), i < (sel b true x p g).length→True∧(sel b true x p g).getD i (0 : Int) = x_1.snd i)∧True)∧(x_1.fst < (4611686018427387904 : Nat)∧∀ (k : Nat), k≤x_1.fst→inRange IntKind.i64 (sumN k x_1.snd))∧True∧sumN x_1.fst x_1.snd = bif (true, p).fst then owes (b, x).fst (true, p).snd (b, x).snd (b, x).fst.nd else gets (b, x).fst (true, p).snd (b, x).snd (b, x).fst.nd)) (by kernel_rfl) ?_
 simp only [true_and, and_true, inR, Prod.exists, Prod.forall, and_assoc, exists_and_left, exists_eq_left', exists_eq_left, forall_eq, exists_const, forall_const, loopN, loopM, fa2, fas, fas2, dup1, dup2, dup3, dup4, ite_true, exhs, exhn, exhz, exho, exA, ex1, ex2, ex3, ex4, ex5, beqI, bneI, decide_true, Bool.true_and, decide_eq_true_eq, decide_eq_false_iff_not, ne_eq, Decidable.not_not]
 obtain ⟨hg, hp⟩ := h
 have hn := hg.nd
 refine ⟨⟨0, by omega, rfl, rfl, rfl⟩, fun i hi => ?_, fun j => (sel b true x p b.nd).getD j 0, fun _ _ => rfl, ?_, fun k hk => ?_, sel_sum⟩
 · have hl := sel_len (b := b) (w := true) (x := x) (p := p) (k := i)
   have hs := sel_succ (b := b) (w := true) (x := x) (p := p) (k := i)
   refine ⟨by omega, by omega, fun h1 => ⟨by omega, by omega, by omega, by omega, fun _ => ⟨by omega, by omega, i + 1, by omega, by omega, by omega, ?_⟩, fun h => absurd h1 h⟩, fun h1 => ⟨by omega, by omega, i + 1, by omega, by omega, by omega, ?_⟩⟩
   · rw [if_pos h1] at hs
     rw [hs]
     refine ⟨by simp, by simp, fun j hj => ?_⟩
     by_cases e : j < (sel b true x p i).length
     · rw [if_pos e]; simp [List.getD_eq_getElem?_getD, List.getElem?_append_left e]
     · obtain rfl : j = (sel b true x p i).length := (by omega)
       rw [if_neg e, Nat.sub_self, if_pos rfl, if_pos (by omega)]
       simp
   · rw [if_neg h1] at hs
     rw [hs]
     exact ⟨rfl, rfl, fun _ _ => rfl⟩
 · have hl := sel_len (b := b) (w := true) (x := x) (p := p) (k := b.nd)
   omega
 · have hl := sel_len (b := b) (w := true) (x := x) (p := p) (k := b.nd)
   have hm : ∀ i, i < k → 0 ≤ (sel b true x p b.nd).getD i 0 ∧ (sel b true x p b.nd).getD i 0 ≤ 10000 := fun i hi => by
     have hi' : i < (sel b true x p b.nd).length := by omega
     have : (sel b true x p b.nd).getD i 0 = (sel b true x p b.nd)[i] := by simp [List.getD_eq_getElem?_getD, hi']
     rw [this]; exact sel_mem hp hg (Nat.le_refl _) _ (List.getElem_mem hi')
   have h1 := sumN_nonneg (fun i hi => (hm i hi).1)
   have h2 := sumN_bound (fun i hi => (hm i hi).2)
   have h3 : (k : Int) * 10000 ≤ 12 * 10000 := by omega
   omega
theorem q47 (x : sTot.α) (h : sTot.pre x) : CallQ Tryd.prog E0 47 (sTot.arg x) (sTot.res x) := by
 obtain ⟨⟨b, x⟩, w, p⟩ := x
 cases w
 · exact q47a b x p h
 · exact q47b b x p h
def outF (b : Book) (s : Nat) (p : Nat → Int) (P k j : Nat) : Int := if j < b.nd then (if b.frm j < P then pay b s p j else if b.frm j = P then (if j < k then pay b s p j else 0) else 0) else 0
section
variable {b : Book} {s : Nat} {p : Nat → Int} {i g K : Nat}
theorem outS (hf : b.frm g = i) (hg : g < b.nd) : (if K = 0 + g * 1 + 0 then pay b s p g else outF b s p i g K) = outF b s p i (g + 1) K := by
 unfold outF
 by_cases e : K = g
 · subst e; rw [if_pos (by omega), if_pos hg, if_neg (by omega), if_pos hf, if_pos (by omega)]
 · rw [if_neg (by omega)]
   have : (K < g) = (K < g + 1) := by apply propext; omega
   simp only [this]
theorem outSkip (hf : ¬ b.frm g = i) : outF b s p i g K = outF b s p i (g + 1) K := by
 unfold outF
 by_cases e : K = g
 · subst e; simp [hf]
 · have : (K < g) = (K < g + 1) := by apply propext; omega
   simp only [this]
theorem outZ (hg : Good b) : 0 = outF b s p 0 0 K := by
 unfold outF
 split
 · rename_i h
   have := hg.frm K h
   rw [if_neg (by omega)]; simp
 · rfl
theorem outN : outF b s p i b.nd K = outF b s p (i + 1) 0 K := by
 unfold outF
 by_cases h : K < b.nd
 · simp only [if_pos h]
   by_cases h1 : b.frm K < i
   · rw [if_pos h1, if_pos (by omega)]
   · rw [if_neg h1]
     by_cases h2 : b.frm K = i
     · rw [if_pos h2, if_pos (by omega)]
     · rw [if_neg h2, if_neg (by omega)]; simp
 · simp only [if_neg h]
theorem outE (hg : Good b) : outF b s p b.nc 0 K = if K < b.nd then pay b s p K else 0 := by
 unfold outF
 by_cases h : K < b.nd
 · have := hg.frm K h
   rw [if_pos h, if_pos h, if_pos (by omega)]
 · rw [if_neg h, if_neg h]
end
def aNx1 (b : Book) (s : Nat) (p : Nat → Int) : Ann := { G := Nat, ok := fun _ i => i ≤ b.nc, dom := fun st => [osN (st.tm 8)], tm := fun _ i => [(16, .t (intC i))], hp := fun st i => [(osN (st.tm 8), .self, some (.box 12 (fun j => .int .i64 (outF b s p i 0 j))))], mu := fun _ i => b.nc - i }
def aNx2 (b : Book) (s : Nat) (p : Nat → Int) : Ann := { G := Nat × Nat, ok := fun st g => isB (st.hp 64) 0 g.1 ∧ g.2 ≤ b.nd, dom := fun _ => [16, 116], tm := fun _ g => [(9, .t (intC g.2))], hp := fun _ g => [(16, .self, some (.box 12 (fun j => .int .i64 (outF b s p g.1 g.2 j)))), (116, .self, some (.box 1 (fun _ => .int .i64 (left b s p g.1 g.2))))], mu := fun _ g => b.nd - g.2 }
def sNext : Sig := ⟨(Book × Nat) × (Nat → Int), fun x => [bookTV x.1.1, intC x.1.2, paidTV x.1.1.nd x.2], fun x => Good x.1.1 ∧ x.1.2 < x.1.1.ns ∧ Pays x.1.1 x.2, fun x => [.v (paidTV x.1.1.nd (pay x.1.1 x.1.2 x.2))]⟩
theorem q54 (x : sNext.α) (h : sNext.pre x) : CallQ Tryd.prog E0 54 (sNext.arg x) (sNext.res x) := by
 obtain ⟨⟨b, s⟩, p⟩ := x
 refine bare_with E0_ok ((47, sTot) :: TD) (TD_ok.cons (runs 47 (by kernel_rfl)) q47) runs [(54, 4, aNx1 b s p), (59, 1, aNx2 b s p)] [] (fuel := 6) ?_
 refine of_red (q := (∃ (g : Nat), g≤b.nc∧True∧((True∧(0 : Int) = (↑g : Int))∧True)∧(True∧(((((((((((True∧True∧(0 : Int) = outF b s p g (0 : Nat) 0)∧True∧(0 : Int) = outF b s p g (0 : Nat) 1)∧True∧(0 : Int) = outF b s p g (0 : Nat) 2)∧True∧(0 : Int) = outF b s p g (0 : Nat) 3)∧True∧(0 : Int) = outF b s p g (0 : Nat) 4)∧True∧(0 : Int) = outF b s p g (0 : Nat) 5)∧True∧(0 : Int) = outF b s p g (0 : Nat) 6)∧True∧(0 : Int) = outF b s p g (0 : Nat) 7)∧True∧(0 : Int) = outF b s p g (0 : Nat) 8)∧True∧(0 : Int) = outF b s p g (0 : Nat) 9)∧True∧(0 : Int) = outF b s p g (0 : Nat) 10)∧True∧(0 : Int) = outF b s p g (0 : Nat) 11)∧True)∧∀ (g : Nat), g≤b.nc→(decide ((↑g : Int) < (↑b.nc : Int)) = true→∃ (x : Book × Nat × Nat), ((True∧((True∧True∧True∧(b, s).fst.nc = x.fst.nc∧∀ (i : Nat), i < (b, s).fst.nc→True∧(b, s).fst.cash i = x.fst.cash i)∧True∧True∧(b, s).fst.nd = x.fst.nd∧∀ (i : Nat), i < (b, s).fst.nd→((True∧(b, s).fst.frm i = x.fst.frm i)∧(b, s).fst.to i = x.fst.to i)∧(b, s).fst.due i = x.fst.due i)∧True∧True∧(b, s).fst.ns = x.fst.ns∧∀ (i : Nat), i < (b, s).fst.ns→(True∧(b, s).fst.price i = x.fst.price i)∧True∧(b, s).fst.nb i = x.fst.nb i∧∀ (i_1 : Nat), i_1 < (b, s).fst.nb i→True∧(b, s).fst.bar i i_1 = x.fst.bar i i_1)∧(True∧(↑s : Int) = (↑x.snd.fst : Int))∧(True∧(↑g : Int) = (↑x.snd.snd : Int))∧True)∧(Good x.fst∧x.snd.fst < x.fst.ns∧x.snd.snd < x.fst.nc)∧∃ (x_1 : (Book × Int) × Bool × (Nat→Int)), ((True∧((True∧True∧True∧(b, s).fst.nc = x_1.fst.fst.nc∧∀ (i : Nat), i < (b, s).fst.nc→True∧(b, s).fst.cash i = x_1.fst.fst.cash i)∧True∧True∧(b, s).fst.nd = x_1.fst.fst.nd∧∀ (i : Nat), i < (b, s).fst.nd→((True∧(b, s).fst.frm i = x_1.fst.fst.frm i)∧(b, s).fst.to i = x_1.fst.fst.to i)∧(b, s).fst.due i = x_1.fst.fst.due i)∧True∧True∧(b, s).fst.ns = x_1.fst.fst.ns∧∀ (i : Nat), i < (b, s).fst.ns→(True∧(b, s).fst.price i = x_1.fst.fst.price i)∧True∧(b, s).fst.nb i = x_1.fst.fst.nb i∧∀ (i_1 : Nat), i_1 < (b, s).fst.nb i→True∧(b, s).fst.bar i i_1 = x_1.fst.fst.bar i i_1)∧(True∧(↑g : Int) = x_1.fst.snd)∧(True∧True∧True∧(CV.fn (77 : FuncId) [] (fun (x x_2 : Nat) => CV.any) (0 : Nat) fun (x : Nat) => CV.any) = CV.fn (bif x_1.snd.fst then (78 : FuncId) else (77 : FuncId)) [] (fun (x x_2 : Nat) => CV.any) (0 : Nat) fun (x : Nat) => CV.any)∧(True∧(((((((((((True∧True∧(if nat_lit 0 < (b, s).fst.nd then p 0 else (0 : Int)) = if nat_lit 0 < x_1.fst.fst.nd then x_1.snd.snd 0 else (0 : Int))∧True∧(if nat_lit 1 < (b, s).fst.nd then p 1 else (0 : Int)) = if nat_lit 1 < x_1.fst.fst.nd then x_1.snd.snd 1 else (0 : Int))∧True∧(if nat_lit 2 < (b, s).fst.nd then p 2 else (0 : Int)) = if nat_lit 2 < x_1.fst.fst.nd then x_1.snd.snd 2 else (0 : Int))∧True∧(if nat_lit 3 < (b, s).fst.nd then p 3 else (0 : Int)) = if nat_lit 3 < x_1.fst.fst.nd then x_1.snd.snd 3 else (0 : Int))∧True∧(if nat_lit 4 < (b, s).fst.nd then p 4 else (0 : Int)) = if nat_lit 4 < x_1.fst.fst.nd then x_1.snd.snd 4 else (0 : Int))∧True∧(if nat_lit 5 < (b, s).fst.nd then p 5 else (0 : Int)) = if nat_lit 5 < x_1.fst.fst.nd then x_1.snd.snd 5 else (0 : Int))∧True∧(if nat_lit 6 < (b, s).fst.nd then p 6 else (0 : Int)) = if nat_lit 6 < x_1.fst.fst.nd then x_1.snd.snd 6 else (0 : Int))∧True∧(if nat_lit 7 < (b, s).fst.nd then p 7 else (0 : Int)) = if nat_lit 7 < x_1.fst.fst.nd then x_1.snd.snd 7 else (0 : Int))∧True∧(if nat_lit 8 < (b, s).fst.nd then p 8 else (0 : Int)) = if nat_lit 8 < x_1.fst.fst.nd then x_1.snd.snd 8 else (0 : Int))∧True∧(if nat_lit 9 < (b, s).fst.nd then p 9 else (0 : Int)) = if nat_lit 9 < x_1.fst.fst.nd then x_1.snd.snd 9 else (0 : Int))∧True∧(if nat_lit 10 < (b, s).fst.nd then p 10 else (0 : Int)) = if nat_lit 10 < x_1.fst.fst.nd then x_1.snd.snd 10 else (0 : Int))∧True∧(if nat_lit 11 < (b, s).fst.nd then p 11 else (0 : Int)) = if nat_lit 11 < x_1.fst.fst.nd then x_1.snd.snd 11 else (0 : Int))∧True)∧(Good x_1.fst.fst∧∀ (k : Nat), k < x_1.fst.fst.nd→(0 : Int)≤x_1.snd.snd k∧x_1.snd.snd k≤x_1.fst.fst.due k)∧inRange IntKind.i64 (has x.fst x.snd.fst x.snd.snd + bif x_1.snd.fst then owes x_1.fst.fst x_1.snd.snd x_1.fst.snd x_1.fst.fst.nd else gets x_1.fst.fst x_1.snd.snd x_1.fst.snd x_1.fst.fst.nd)∧(∃ (g_1 : Nat × Nat), ((↑g : Int) = (↑g_1.fst : Int)∧g_1.snd≤b.nd)∧True∧((True∧(0 : Int) = (↑g_1.snd : Int))∧True)∧(True∧(((((((((((True∧True∧outF b s p g (0 : Nat) 0 = outF b s p g_1.fst g_1.snd 0)∧True∧outF b s p g (0 : Nat) 1 = outF b s p g_1.fst g_1.snd 1)∧True∧outF b s p g (0 : Nat) 2 = outF b s p g_1.fst g_1.snd 2)∧True∧outF b s p g (0 : Nat) 3 = outF b s p g_1.fst g_1.snd 3)∧True∧outF b s p g (0 : Nat) 4 = outF b s p g_1.fst g_1.snd 4)∧True∧outF b s p g (0 : Nat) 5 = outF b s p g_1.fst g_1.snd 5)∧True∧outF b s p g (0 : Nat) 6 = outF b s p g_1.fst g_1.snd 6)∧True∧outF b s p g (0 : Nat) 7 = outF b s p g_1.fst g_1.snd 7)∧True∧outF b s p g (0 : Nat) 8 = outF b s p g_1.fst g_1.snd 8)∧True∧outF b s p g (0 : Nat) 9 = outF b s p g_1.fst g_1.snd 9)∧True∧outF b s p g (0 : Nat) 10 = outF b s p g_1.fst g_1.snd 10)∧True∧outF b s p g (0 : Nat) 11 = outF b s p g_1.fst g_1.snd 11)∧(True∧True∧True∧(has x.fst x.snd.fst x.snd.snd + bif x_1.snd.fst then owes x_1.fst.fst x_1.snd.snd x_1.fst.snd x_1.fst.fst.nd else gets x_1.fst.fst x_1.snd.snd x_1.fst.snd x_1.fst.fst.nd) = left b s p (↑g_1.fst : Int) g_1.snd)∧True)∧∀ (g_1 : Nat × Nat), (↑g : Int) = (↑g_1.fst : Int)∧g_1.snd≤b.nd→(decide ((↑g_1.snd : Int) < (↑b.nd : Int)) = true→(0 : Int)≤(↑g_1.snd : Int)∧(↑g_1.snd : Int) < (↑b.nd : Int)∧((b.frm g_1.snd == (↑g : Int)) = true→(0 : Int)≤(↑g_1.snd : Int)∧(↑g_1.snd : Int) < (↑b.nd : Int)∧(0 : Int)≤(↑g_1.snd : Int)∧(↑g_1.snd : Int) < (↑(12 : Nat) : Int)∧(0 : Int)≤(↑g_1.snd : Int)∧(↑g_1.snd : Int) < (↑(12 : Nat) : Int)∧inRange IntKind.i64 (left b s p (↑g_1.fst : Int) g_1.snd - if (0 : Nat) + g_1.snd * (1 : Nat) + (0 : Nat) + (0 : Nat) = (0 : Nat) + g_1.snd * (1 : Nat) + (0 : Nat) then imin (left b s p (↑g_1.fst : Int) g_1.snd) (b.due g_1.snd) else outF b s p g_1.fst g_1.snd ((0 : Nat) + g_1.snd * (1 : Nat) + (0 : Nat) + (0 : Nat)))∧((b.frm g_1.snd == (↑g : Int)) = true→((b.frm g_1.snd == (↑g : Int)) = true→inRange IntKind.i64 ((↑g_1.snd : Int) + (1 : Int))∧∃ (g' : Nat × Nat), ((↑g : Int) = (↑g'.fst : Int)∧g'.snd≤b.nd)∧b.nd - g'.snd < b.nd - g_1.snd∧True∧((True∧(↑g_1.snd : Int) + (1 : Int) = (↑g'.snd : Int))∧True)∧(True∧(((((((((((True∧True∧(if nat_lit 0 = (0 : Nat) + g_1.snd * (1 : Nat) + (0 : Nat) then imin (left b s p (↑g_1.fst : Int) g_1.snd) (b.due g_1.snd) else outF b s p g_1.fst g_1.snd 0) = outF b s p g'.fst g'.snd 0)∧True∧(if nat_lit 1 = (0 : Nat) + g_1.snd * (1 : Nat) + (0 : Nat) then imin (left b s p (↑g_1.fst : Int) g_1.snd) (b.due g_1.snd) else outF b s p g_1.fst g_1.snd 1) = outF b s p g'.fst g'.snd 1)∧True∧(if nat_lit 2 = (0 : Nat) + g_1.snd * (1 : Nat) + (0 : Nat) then imin (left b s p (↑g_1.fst : Int) g_1.snd) (b.due g_1.snd) else outF b s p g_1.fst g_1.snd 2) = outF b s p g'.fst g'.snd 2)∧True∧(if nat_lit 3 = (0 : Nat) + g_1.snd * (1 : Nat) + (0 : Nat) then imin (left b s p (↑g_1.fst : Int) g_1.snd) (b.due g_1.snd) else outF b s p g_1.fst g_1.snd 3) = outF b s p g'.fst g'.snd 3)∧True∧(if nat_lit 4 = (0 : Nat) + g_1.snd * (1 : Nat) + (0 : Nat) then imin (left b s p (↑g_1.fst : Int) g_1.snd) (b.due g_1.snd) else outF b s p g_1.fst g_1.snd 4) = outF b s p g'.fst g'.snd 4)∧True∧(if nat_lit 5 = (0 : Nat) + g_1.snd * (1 : Nat) + (0 : Nat) then imin (left b s p (↑g_1.fst : Int) g_1.snd) (b.due g_1.snd) else outF b s p g_1.fst g_1.snd 5) = outF b s p g'.fst g'.snd 5)∧True∧(if nat_lit 6 = (0 : Nat) + g_1.snd * (1 : Nat) + (0 : Nat) then imin (left b s p (↑g_1.fst : Int) g_1.snd) (b.due g_1.snd) else outF b s p g_1.fst g_1.snd 6) = outF b s p g'.fst g'.snd 6)∧True∧(if nat_lit 7 = (0 : Nat) + g_1.snd * (1 : Nat) + (0 : Nat) then imin (left b s p (↑g_1.fst : Int) g_1.snd) (b.due g_1.snd) else outF b s p g_1.fst g_1.snd 7) = outF b s p g'.fst g'.snd 7)∧True∧(if nat_lit 8 = (0 : Nat) + g_1.snd * (1 : Nat) + (0 : Nat) then imin (left b s p (↑g_1.fst : Int) g_1.snd) (b.due g_1.snd) else outF b s p g_1.fst g_1.snd 8) = outF b s p g'.fst g'.snd 8)∧True∧(if nat_lit 9 = (0 : Nat) + g_1.snd * (1 : Nat) + (0 : Nat) then imin (left b s p (↑g_1.fst : Int) g_1.snd) (b.due g_1.snd) else outF b s p g_1.fst g_1.snd 9) = outF b s p g'.fst g'.snd 9)∧True∧(if nat_lit 10 = (0 : Nat) + g_1.snd * (1 : Nat) + (0 : Nat) then imin (left b s p (↑g_1.fst : Int) g_1.snd) (b.due g_1.snd) else outF b s p g_1.fst g_1.snd 10) = outF b s p g'.fst g'.snd 10)∧True∧(if nat_lit 11 = (0 : Nat) + g_1.snd * (1 : Nat) + (0 : Nat) then imin (left b s p (↑g_1.fst : Int) g_1.snd) (b.due g_1.snd) else outF b s p g_1.fst g_1.snd 11) = outF b s p g'.fst g'.snd 11)∧(True∧True∧True∧(left b s p (↑g_1.fst : Int) g_1.snd - if (0 : Nat) + g_1.snd * (1 : Nat) + (0 : Nat) + (0 : Nat) = (0 : Nat) + g_1.snd * (1 : Nat) + (0 : Nat) then imin (left b s p (↑g_1.fst : Int) g_1.snd) (b.due g_1.snd) else outF b s p g_1.fst g_1.snd ((0 : Nat) + g_1.snd * (1 : Nat) + (0 : Nat) + (0 : Nat))) = left b s p (↑g'.fst : Int) g'.snd)∧True)∧((b.frm g_1.snd == (↑g : Int)) = false→inRange IntKind.i64 ((↑g_1.snd : Int) + (1 : Int))∧∃ (g' : Nat × Nat), ((↑g : Int) = (↑g'.fst : Int)∧g'.snd≤b.nd)∧b.nd - g'.snd < b.nd - g_1.snd∧True∧((True∧(↑g_1.snd : Int) + (1 : Int) = (↑g'.snd : Int))∧True)∧(True∧(((((((((((True∧True∧(if nat_lit 0 = (0 : Nat) + g_1.snd * (1 : Nat) + (0 : Nat) then imin (left b s p (↑g_1.fst : Int) g_1.snd) (b.due g_1.snd) else outF b s p g_1.fst g_1.snd 0) = outF b s p g'.fst g'.snd 0)∧True∧(if nat_lit 1 = (0 : Nat) + g_1.snd * (1 : Nat) + (0 : Nat) then imin (left b s p (↑g_1.fst : Int) g_1.snd) (b.due g_1.snd) else outF b s p g_1.fst g_1.snd 1) = outF b s p g'.fst g'.snd 1)∧True∧(if nat_lit 2 = (0 : Nat) + g_1.snd * (1 : Nat) + (0 : Nat) then imin (left b s p (↑g_1.fst : Int) g_1.snd) (b.due g_1.snd) else outF b s p g_1.fst g_1.snd 2) = outF b s p g'.fst g'.snd 2)∧True∧(if nat_lit 3 = (0 : Nat) + g_1.snd * (1 : Nat) + (0 : Nat) then imin (left b s p (↑g_1.fst : Int) g_1.snd) (b.due g_1.snd) else outF b s p g_1.fst g_1.snd 3) = outF b s p g'.fst g'.snd 3)∧True∧(if nat_lit 4 = (0 : Nat) + g_1.snd * (1 : Nat) + (0 : Nat) then imin (left b s p (↑g_1.fst : Int) g_1.snd) (b.due g_1.snd) else outF b s p g_1.fst g_1.snd 4) = outF b s p g'.fst g'.snd 4)∧True∧(if nat_lit 5 = (0 : Nat) + g_1.snd * (1 : Nat) + (0 : Nat) then imin (left b s p (↑g_1.fst : Int) g_1.snd) (b.due g_1.snd) else outF b s p g_1.fst g_1.snd 5) = outF b s p g'.fst g'.snd 5)∧True∧(if nat_lit 6 = (0 : Nat) + g_1.snd * (1 : Nat) + (0 : Nat) then imin (left b s p (↑g_1.fst : Int) g_1.snd) (b.due g_1.snd) else outF b s p g_1.fst g_1.snd 6) = outF b s p g'.fst g'.snd 6)∧True∧(if nat_lit 7 = (0 : Nat) + g_1.snd * (1 : Nat) + (0 : Nat) then imin (left b s p (↑g_1.fst : Int) g_1.snd) (b.due g_1.snd) else outF b s p g_1.fst g_1.snd 7) = outF b s p g'.fst g'.snd 7)∧True∧(if nat_lit 8 = (0 : Nat) + g_1.snd * (1 : Nat) + (0 : Nat) then imin (left b s p (↑g_1.fst : Int) g_1.snd) (b.due g_1.snd) else outF b s p g_1.fst g_1.snd 8) = outF b s p g'.fst g'.snd 8)∧True∧(if nat_lit 9 = (0 : Nat) + g_1.snd * (1 : Nat) + (0 : Nat) then imin (left b s p (↑g_1.fst : Int) g_1.snd) (b.due g_1.snd) else outF b s p g_1.fst g_1.snd 9) = outF b s p g'.fst g'.snd 9)∧True∧(if nat_lit 10 = (0 : Nat) + g_1.snd * (1 : Nat) + (0 : Nat) then imin (left b s p (↑g_1.fst : Int) g_1.snd) (b.due g_1.snd) else outF b s p g_1.fst g_1.snd 10) = outF b s p g'.fst g'.snd 10)∧True∧(if nat_lit 11 = (0 : Nat) + g_1.snd * (1 : Nat) + (0 : Nat) then imin (left b s p (↑g_1.fst : Int) g_1.snd) (b.due g_1.snd) else outF b s p g_1.fst g_1.snd 11) = outF b s p g'.fst g'.snd 11)∧(True∧True∧True∧(left b s p (↑g_1.fst : Int) g_1.snd - if (0 : Nat) + g_1.snd * (1 : Nat) + (0 : Nat) + (0 : Nat) = (0 : Nat) + g_1.snd * (1 : Nat) + (0 : Nat) then imin (left b s p (↑g_1.fst : Int) g_1.snd) (b.due g_1.snd) else outF b s p g_1.fst g_1.snd ((0 : Nat) + g_1.snd * (1 : Nat) + (0 : Nat) + (0 : Nat))) = left b s p (↑g'.fst : Int) g'.snd)∧True))∧((b.frm g_1.snd == (↑g : Int)) = false→((b.frm g_1.snd == (↑g : Int)) = true→False)∧((b.frm g_1.snd == (↑g : Int)) = false→inRange IntKind.i64 ((↑g_1.snd : Int) + (1 : Int))∧∃ (g' : Nat × Nat), ((↑g : Int) = (↑g'.fst : Int)∧g'.snd≤b.nd)∧b.nd - g'.snd < b.nd - g_1.snd∧True∧((True∧(↑g_1.snd : Int) + (1 : Int) = (↑g'.snd : Int))∧True)∧(True∧(((((((((((True∧True∧(if nat_lit 0 = (0 : Nat) + g_1.snd * (1 : Nat) + (0 : Nat) then imin (left b s p (↑g_1.fst : Int) g_1.snd) (b.due g_1.snd) else outF b s p g_1.fst g_1.snd 0) = outF b s p g'.fst g'.snd 0)∧True∧(if nat_lit 1 = (0 : Nat) + g_1.snd * (1 : Nat) + (0 : Nat) then imin (left b s p (↑g_1.fst : Int) g_1.snd) (b.due g_1.snd) else outF b s p g_1.fst g_1.snd 1) = outF b s p g'.fst g'.snd 1)∧True∧(if nat_lit 2 = (0 : Nat) + g_1.snd * (1 : Nat) + (0 : Nat) then imin (left b s p (↑g_1.fst : Int) g_1.snd) (b.due g_1.snd) else outF b s p g_1.fst g_1.snd 2) = outF b s p g'.fst g'.snd 2)∧True∧(if nat_lit 3 = (0 : Nat) + g_1.snd * (1 : Nat) + (0 : Nat) then imin (left b s p (↑g_1.fst : Int) g_1.snd) (b.due g_1.snd) else outF b s p g_1.fst g_1.snd 3) = outF b s p g'.fst g'.snd 3)∧True∧(if nat_lit 4 = (0 : Nat) + g_1.snd * (1 : Nat) + (0 : Nat) then imin (left b s p (↑g_1.fst : Int) g_1.snd) (b.due g_1.snd) else outF b s p g_1.fst g_1.snd 4) = outF b s p g'.fst g'.snd 4)∧True∧(if nat_lit 5 = (0 : Nat) + g_1.snd * (1 : Nat) + (0 : Nat) then imin (left b s p (↑g_1.fst : Int) g_1.snd) (b.due g_1.snd) else outF b s p g_1.fst g_1.snd 5) = outF b s p g'.fst g'.snd 5)∧True∧(if nat_lit 6 = (0 : Nat) + g_1.snd * (1 : Nat) + (0 : Nat) then imin (left b s p (↑g_1.fst : Int) g_1.snd) (b.due g_1.snd) else outF b s p g_1.fst g_1.snd 6) = outF b s p g'.fst g'.snd 6)∧True∧(if nat_lit 7 = (0 : Nat) + g_1.snd * (1 : Nat) + (0 : Nat) then imin (left b s p (↑g_1.fst : Int) g_1.snd) (b.due g_1.snd) else outF b s p g_1.fst g_1.snd 7) = outF b s p g'.fst g'.snd 7)∧True∧(if nat_lit 8 = (0 : Nat) + g_1.snd * (1 : Nat) + (0 : Nat) then imin (left b s p (↑g_1.fst : Int) g_1.snd) (b.due g_1.snd) else outF b s p g_1.fst g_1.snd 8) = outF b s p g'.fst g'.snd 8)∧True∧(if nat_lit 9 = (0 : Nat) + g_1.snd * (1 : Nat) + (0 : Nat) then imin (left b s p (↑g_1.fst : Int) g_1.snd) (b.due g_1.snd) else outF b s p g_1.fst g_1.snd 9) = outF b s p g'.fst g'.snd 9)∧True∧(if nat_lit 10 = (0 : Nat) + g_1.snd * (1 : Nat) + (0 : Nat) then imin (left b s p (↑g_1.fst : Int) g_1.snd) (b.due g_1.snd) else outF b s p g_1.fst g_1.snd 10) = outF b s p g'.fst g'.snd 10)∧True∧(if nat_lit 11 = (0 : Nat) + g_1.snd * (1 : Nat) + (0 : Nat) then imin (left b s p (↑g_1.fst : Int) g_1.snd) (b.due g_1.snd) else outF b s p g_1.fst g_1.snd 11) = outF b s p g'.fst g'.snd 11)∧(True∧True∧True∧(left b s p (↑g_1.fst : Int) g_1.snd - if (0 : Nat) + g_1.snd * (1 : Nat) + (0 : Nat) + (0 : Nat) = (0 : Nat) + g_1.snd * (1 : Nat) + (0 : Nat) then imin (left b s p (↑g_1.fst : Int) g_1.snd) (b.due g_1.snd) else outF b s p g_1.fst g_1.snd ((0 : Nat) + g_1.snd * (1 : Nat) + (0 : Nat) + (0 : Nat))) = left b s p (↑g'.fst : Int) g'.snd)∧True)))∧((b.frm g_1.snd == (↑g : Int)) = false→((b.frm g_1.snd == (↑g : Int)) = true→False)∧((b.frm g_1.snd == (↑g : Int)) = false→((b.frm g_1.snd == (↑g : Int)) = true→False)∧((b.frm g_1.snd == (↑g : Int)) = false→inRange IntKind.i64 ((↑g_1.snd : Int) + (1 : Int))∧∃ (g' : Nat × Nat), ((↑g : Int) = (↑g'.fst : Int)∧g'.snd≤b.nd)∧b.nd - g'.snd < b.nd - g_1.snd∧True∧((True∧(↑g_1.snd : Int) + (1 : Int) = (↑g'.snd : Int))∧True)∧(True∧(((((((((((True∧True∧outF b s p g_1.fst g_1.snd 0 = outF b s p g'.fst g'.snd 0)∧True∧outF b s p g_1.fst g_1.snd 1 = outF b s p g'.fst g'.snd 1)∧True∧outF b s p g_1.fst g_1.snd 2 = outF b s p g'.fst g'.snd 2)∧True∧outF b s p g_1.fst g_1.snd 3 = outF b s p g'.fst g'.snd 3)∧True∧outF b s p g_1.fst g_1.snd 4 = outF b s p g'.fst g'.snd 4)∧True∧outF b s p g_1.fst g_1.snd 5 = outF b s p g'.fst g'.snd 5)∧True∧outF b s p g_1.fst g_1.snd 6 = outF b s p g'.fst g'.snd 6)∧True∧outF b s p g_1.fst g_1.snd 7 = outF b s p g'.fst g'.snd 7)∧True∧outF b s p g_1.fst g_1.snd 8 = outF b s p g'.fst g'.snd 8)∧True∧outF b s p g_1.fst g_1.snd 9 = outF b s p g'.fst g'.snd 9)∧True∧outF b s p g_1.fst g_1.snd 10 = outF b s p g'.fst g'.snd 10)∧True∧outF b s p g_1.fst g_1.snd 11 = outF b s p g'.fst g'.snd 11)∧(True∧True∧True∧left b s p (↑g_1.fst : Int) g_1.snd = left b s p (↑g'.fst : Int) g'.snd)∧True))))∧(decide ((↑g_1.snd : Int) < (↑b.nd : Int)) = false→inRange IntKind.i64 ((↑g : Int) + (1 : Int))∧∃ (g' : Nat), g'≤b.nc∧b.nc - g' < b.nc - g∧True∧((True∧(↑g : Int) + (1 : Int) = (↑g' : Int))∧True)∧(True∧(((((((((((True∧True∧outF b s p g_1.fst g_1.snd 0 = outF b s p g' (0 : Nat) 0)∧True∧outF b s p g_1.fst g_1.snd 1 = outF b s p g' (0 : Nat) 1)∧True∧outF b s p g_1.fst g_1.snd 2 = outF b s p g' (0 : Nat) 2)∧True∧outF b s p g_1.fst g_1.snd 3 = outF b s p g' (0 : Nat) 3)∧True∧outF b s p g_1.fst g_1.snd 4 = outF b s p g' (0 : Nat) 4)∧True∧outF b s p g_1.fst g_1.snd 5 = outF b s p g' (0 : Nat) 5)∧True∧outF b s p g_1.fst g_1.snd 6 = outF b s p g' (0 : Nat) 6)∧True∧outF b s p g_1.fst g_1.snd 7 = outF b s p g' (0 : Nat) 7)∧True∧outF b s p g_1.fst g_1.snd 8 = outF b s p g' (0 : Nat) 8)∧True∧outF b s p g_1.fst g_1.snd 9 = outF b s p g' (0 : Nat) 9)∧True∧outF b s p g_1.fst g_1.snd 10 = outF b s p g' (0 : Nat) 10)∧True∧outF b s p g_1.fst g_1.snd 11 = outF b s p g' (0 : Nat) 11)∧True))∧(decide ((↑g : Int) < (↑b.nc : Int)) = false→True∧(((((((((((True∧True∧outF b s p g (0 : Nat) 0 = if nat_lit 0 < (b, s).fst.nd then pay (b, s).fst (b, s).snd p 0 else (0 : Int))∧True∧outF b s p g (0 : Nat) 1 = if nat_lit 1 < (b, s).fst.nd then pay (b, s).fst (b, s).snd p 1 else (0 : Int))∧True∧outF b s p g (0 : Nat) 2 = if nat_lit 2 < (b, s).fst.nd then pay (b, s).fst (b, s).snd p 2 else (0 : Int))∧True∧outF b s p g (0 : Nat) 3 = if nat_lit 3 < (b, s).fst.nd then pay (b, s).fst (b, s).snd p 3 else (0 : Int))∧True∧outF b s p g (0 : Nat) 4 = if nat_lit 4 < (b, s).fst.nd then pay (b, s).fst (b, s).snd p 4 else (0 : Int))∧True∧outF b s p g (0 : Nat) 5 = if nat_lit 5 < (b, s).fst.nd then pay (b, s).fst (b, s).snd p 5 else (0 : Int))∧True∧outF b s p g (0 : Nat) 6 = if nat_lit 6 < (b, s).fst.nd then pay (b, s).fst (b, s).snd p 6 else (0 : Int))∧True∧outF b s p g (0 : Nat) 7 = if nat_lit 7 < (b, s).fst.nd then pay (b, s).fst (b, s).snd p 7 else (0 : Int))∧True∧outF b s p g (0 : Nat) 8 = if nat_lit 8 < (b, s).fst.nd then pay (b, s).fst (b, s).snd p 8 else (0 : Int))∧True∧outF b s p g (0 : Nat) 9 = if nat_lit 9 < (b, s).fst.nd then pay (b, s).fst (b, s).snd p 9 else (0 : Int))∧True∧outF b s p g (0 : Nat) 10 = if nat_lit 10 < (b, s).fst.nd then pay (b, s).fst (b, s).snd p 10 else (0 : Int))∧True∧outF b s p g (0 : Nat) 11 = if nat_lit 11 < (b, s).fst.nd then pay (b, s).fst (b, s).snd p 11 else (0 : Int))) (by kernel_rfl) ?_
 simp only [true_and, and_true, inR, Prod.exists, Prod.forall, and_assoc, exists_and_left, exists_eq_left', exists_eq_left, forall_eq, exists_const, forall_const, loopN, loopM, fa2, fas, fas2, dup1, dup2, dup3, dup4, ite_true, exhs, exhn, exhz, exho, exA, ex1, ex2, ex3, ex4, ex5, beqI, bneI, decide_true, Bool.true_and, decide_eq_true_eq, decide_eq_false_iff_not, ne_eq, Decidable.not_not]
 obtain ⟨hg, hs, hp⟩ : Good b ∧ s < b.ns ∧ Pays b p := h
 have hn := hg.nd
 have bk : ∀ {Q : Prop}, Q → b.nc = b.nc ∧ (∀ (i : Nat), i < b.nc → b.cash i = b.cash i) ∧ b.nd = b.nd ∧ (∀ (i : Nat), i < b.nd → b.frm i = b.frm i ∧ b.to i = b.to i ∧ b.due i = b.due i) ∧ b.ns = b.ns ∧ (∀ (i : Nat), i < b.ns → b.price i = b.price i ∧ b.nb i = b.nb i ∧ ∀ (j : Nat), j < b.nb i → b.bar i j = b.bar i j) ∧ Q := fun h => ⟨rfl, fun _ _ => rfl, rfl, fun _ _ => ⟨rfl, rfl, rfl⟩, rfl, fun _ _ => ⟨rfl, rfl, fun _ _ => rfl⟩, h⟩
 refine ⟨⟨0, by omega, rfl, ?_⟩, fun i hi => ⟨b, bk ⟨hg, hs, hi, b, bk ⟨false, rfl, p, rfl, rfl, rfl, rfl, rfl, rfl, rfl, rfl, rfl, rfl, rfl, rfl, hg, hp, ?_⟩⟩⟩, ?_⟩
 · refine ⟨?_, ?_, ?_, ?_, ?_, ?_, ?_, ?_, ?_, ?_, ?_, ?_⟩ <;> exact outZ hg
 · simp only [cond_false]
   have h1 := has_bd hg hs hi
   have h2 := gets_bd hg hp i b.nd (Nat.le_refl _)
   have h0 := left_zero hg hs hp (x := i) (by omega)
   have hc := hg.nc
   rw [Int.toNat_natCast] at h0
   refine ⟨by omega, by omega, ⟨0, by omega, rfl, rfl, rfl, rfl, rfl, rfl, rfl, rfl, rfl, rfl, rfl, rfl, rfl, h0.symm⟩, fun k hk => ?_, by omega, by omega, i + 1, by omega, by omega, by omega, ?_⟩
   · have hd := hg.due k hk
     have hl := left_bd hg hs hp (x := i) (by omega) (k := k) (by omega)
     refine ⟨by omega, by omega, fun hf => ?_, fun hf => ⟨by omega, by omega, k + 1, by omega, by omega, by omega, outSkip hf, outSkip hf, outSkip hf, outSkip hf, outSkip hf, outSkip hf, outSkip hf, outSkip hf, outSkip hf, outSkip hf, outSkip hf, outSkip hf, (left_other hf).symm⟩⟩
     have e1 : imin (left b s p i k) (b.due k) = pay b s p k := by rw [imin_eq, ← hf]; rfl
     have e2 : left b s p i (k + 1) = left b s p i k - pay b s p k := by rw [← hf]; exact left_own hg hk
     have h3 := pays_pay hg (s := s) (p := p) k hk
     rw [e1]
     exact ⟨by omega, by omega, by omega, by omega, by omega, by omega, by omega, by omega, fun _ => ⟨by omega, by omega, k + 1, by omega, by omega, by omega, outS hf hk, outS hf hk, outS hf hk, outS hf hk, outS hf hk, outS hf hk, outS hf hk, outS hf hk, outS hf hk, outS hf hk, outS hf hk, outS hf hk, e2.symm⟩, fun h => absurd hf h⟩
   · exact ⟨outN, outN, outN, outN, outN, outN, outN, outN, outN, outN, outN, outN⟩
 · exact ⟨outE hg, outE hg, outE hg, outE hg, outE hg, outE hg, outE hg, outE hg, outE hg, outE hg, outE hg, outE hg⟩
end Go.Proofs.YthofpbnbjkdpaaaDoor
namespace Cm
def it (b : Book) (s : Nat) : Nat → Nat → Int
 | 0 => b.due
 | k + 1 => pay b s (it b s k)
def same (b : Book) (s k : Nat) : Bool := allB b.nd fun i => decide (it b s (k + 1) i = it b s k i)
def srch (q : Nat → Bool) : Nat → Nat → Nat
 | 0, k => k
 | n + 1, k => bif q k then k else srch q n (k + 1)
theorem srch_ok {q : Nat → Bool} : ∀ {n k j : Nat}, k ≤ j → j < k + n → q j = true → q (srch q n k) = true ∧ k ≤ srch q n k ∧ srch q n k ≤ j ∧ ∀ i, k ≤ i → i < srch q n k → q i = false
 | 0, k, j, h1, h2, _ => by omega
 | n + 1, k, j, h1, h2, h3 => by
   simp only [srch]
   cases e : q k with
   | true => exact ⟨e, Nat.le_refl _, h1, fun i h4 h5 => by simp only [cond_true] at h5; omega⟩
   | false =>
     have hne : k ≠ j := fun h => by subst h; rw [e] at h3; cases h3
     obtain ⟨a1, a2, a3, a4⟩ := srch_ok (n := n) (k := k + 1) (j := j) (by omega) (by omega) h3
     refine ⟨a1, by simp only [cond_false]; omega, a3, fun i h4 h5 => ?_⟩
     by_cases e2 : i = k
     · subst e2; exact e
     · exact a4 i (by omega) h5
def stop (b : Book) (s : Nat) : Nat := srch (same b s) 120001 0
section
variable {b : Book} {s : Nat} (g : Good b)
include g
theorem pays_it : ∀ k, Pays b (it b s k)
 | 0 => pays_due g
 | _ + 1 => pays_pay g
omit g in
theorem pay_mono {p q : Nat → Int} (h : ∀ i, i < b.nd → p i ≤ q i) {k : Nat} : pay b s p k ≤ pay b s q k := by
 have : gets b p (b.frm k) b.nd ≤ gets b q (b.frm k) b.nd := sumN_le fun i hi => by
   have := h i hi
   split <;> omega
 simp only [pay, left]
 omega
theorem it_down : ∀ (k i : Nat), i < b.nd → it b s (k + 1) i ≤ it b s k i
 | 0, i, hi => (pays_pay g (s := s) (p := b.due) i hi).2
 | k + 1, i, _ => pay_mono (fun j hj => it_down k j hj)
theorem it_le : ∀ (k i : Nat), i < b.nd → it b s k i ≤ b.due i := fun k i hi => (pays_it g k i hi).2
theorem sum_step {k : Nat} (h : same b s k = false) : sumN b.nd (it b s (k + 1)) + 1 ≤ sumN b.nd (it b s k) := by
 have hd := it_down (s := s) g k
 have : ∃ i, i < b.nd ∧ it b s (k + 1) i ≠ it b s k i := by
   apply Classical.byContradiction
   intro hn
   have : same b s k = true := allB_iff.2 fun i hi => decide_eq_true (Classical.byContradiction fun h => hn ⟨i, hi, h⟩)
   rw [this] at h; cases h
 obtain ⟨i, hi, hne⟩ := this
 have h1 : sumN b.nd (fun j => it b s (k + 1) j + if j = i then 1 else 0) ≤ sumN b.nd (it b s k) := sumN_le fun j hj => by
   have := hd j hj
   by_cases e : j = i
   · subst e; rw [if_pos rfl]; omega
   · rw [if_neg e]; omega
 rw [sumN_add, sumN_one hi] at h1
 exact h1
theorem sum_down {n : Nat} (h : ∀ k, k < n → same b s k = false) : sumN b.nd (it b s n) + n ≤ sumN b.nd (it b s 0) := by
 induction n with
 | zero => simp
 | succ n ih =>
   have h1 := ih (fun k hk => h k (by omega))
   have h2 := sum_step g (h n (by omega))
   omega
theorem stop_ex : ∃ j, j < 120001 ∧ same b s j = true := by
 apply Classical.byContradiction
 intro hn
 have h := sum_down (s := s) g (n := 120001) (fun k hk => by
   cases e : same b s k with
   | false => rfl
   | true => exact absurd ⟨k, hk, e⟩ hn)
 have h1 : 0 ≤ sumN b.nd (it b s 120001) := sumN_nonneg fun i hi => (pays_it g _ i hi).1
 have h2 : sumN b.nd (it b s 0) ≤ b.nd * 10000 := sumN_bound fun i hi => (g.due i hi).2
 have := g.nd
 omega
theorem stop_same : same b s (stop b s) = true := by
 obtain ⟨j, h1, h2⟩ := stop_ex (s := s) g
 exact (srch_ok (Nat.zero_le _) (by omega) h2).1
theorem stop_lt {k : Nat} (h : k < stop b s) : same b s k = false := by
 obtain ⟨j, h1, h2⟩ := stop_ex (s := s) g
 exact (srch_ok (n := 120001) (Nat.zero_le _) (by omega) h2).2.2.2 k (Nat.zero_le _) h
theorem stop_bd : stop b s ≤ 120000 := by
 obtain ⟨j, h1, h2⟩ := stop_ex (s := s) g
 have := (srch_ok (n := 120001) (Nat.zero_le _) (by omega) h2).2.2.1
 unfold stop; omega
omit g in
theorem same_iff {k : Nat} : same b s k = true ↔ ∀ i, i < b.nd → it b s (k + 1) i = it b s k i := by
 unfold same; rw [allB_iff]; exact ⟨fun h i hi => of_decide_eq_true (h i hi), fun h i hi => decide_eq_true (h i hi)⟩
end
def brk (b : Book) (s : Nat) : Nat → Nat → Int
 | 0, _ => 0
 | k + 1, i => if brk b s k i = 0 ∧ it b s (k + 1) i < b.due i then (k + 1 : Nat) else brk b s k i
theorem brk_bd {b : Book} {s : Nat} : ∀ {k i : Nat}, 0 ≤ brk b s k i ∧ brk b s k i ≤ k
 | 0, i => by simp [brk]
 | k + 1, i => by
   have := brk_bd (b := b) (s := s) (k := k) (i := i)
   simp only [brk]; split <;> omega
theorem brk_iff {b : Book} (g : Good b) {s : Nat} : ∀ {k i : Nat}, i < b.nd → (brk b s k i = 0 ↔ it b s k i = b.due i)
 | 0, i, _ => by simp [brk, it]
 | k + 1, i, hi => by
   have ih := brk_iff (s := s) g (k := k) hi
   have h1 := it_down (s := s) g k i hi
   have h2 := it_le (s := s) g k i hi
   have h3 := it_le (s := s) g (k + 1) i hi
   simp only [brk]
   by_cases h : brk b s k i = 0 ∧ it b s (k + 1) i < b.due i
   · rw [if_pos h]; omega
   · rw [if_neg h]; omega
theorem brk_stop {b : Book} (g : Good b) {s i : Nat} (hi : i < b.nd) : brk b s (stop b s + 1) i = brk b s (stop b s) i := by
 have h1 := same_iff.1 (stop_same (s := s) g) i hi
 have h2 := brk_iff (s := s) g (k := stop b s) hi
 simp only [brk]
 rw [if_neg]
 rintro ⟨h3, h4⟩
 have := h2.1 h3
 omega
theorem e12 {F G : Nat → Int} : (decide (F 0 = G 0) && (decide (F 1 = G 1) && (decide (F 2 = G 2) && (decide (F 3 = G 3) && (decide (F 4 = G 4) && (decide (F 5 = G 5) && (decide (F 6 = G 6) && (decide (F 7 = G 7) && (decide (F 8 = G 8) && (decide (F 9 = G 9) && (decide (F 10 = G 10) && (decide (F 11 = G 11) && true)))))))))))) = true ↔ ∀ j, j < 12 → F j = G j := by
 simp only [Bool.and_eq_true, decide_eq_true_eq, and_true]
 constructor
 · rintro ⟨h0, h1, h2, h3, h4, h5, h6, h7, h8, h9, h10, h11⟩ j hj
   match j, hj with
   | 0, _ => exact h0
   | 1, _ => exact h1
   | 2, _ => exact h2
   | 3, _ => exact h3
   | 4, _ => exact h4
   | 5, _ => exact h5
   | 6, _ => exact h6
   | 7, _ => exact h7
   | 8, _ => exact h8
   | 9, _ => exact h9
   | 10, _ => exact h10
   | 11, _ => exact h11
 · intro h
   exact ⟨h 0 (by omega), h 1 (by omega), h 2 (by omega), h 3 (by omega), h 4 (by omega), h 5 (by omega), h 6 (by omega), h 7 (by omega), h 8 (by omega), h 9 (by omega), h 10 (by omega), h 11 (by omega)⟩
theorem ifc {n j : Nat} {x y : Int} (h : j < n → x = y) : (if j < n then x else 0) = if j < n then y else 0 := by
 split
 · rename_i e; exact h e
 · rfl
def clear (b : Book) (s : Nat) : Nat → Int := it b s (stop b s)
def rnd (b : Book) (s : Nat) : Nat → Int := brk b s (stop b s)
end Cm
namespace Cm
def noBook : Book := ⟨0, fun _ => 0, 0, fun _ => 0, fun _ => 0, fun _ => 0, 0, fun _ => 0, fun _ => 0, fun _ _ => 0⟩
def askE (b : Book) (s : Int) : Int := if chk b then (if within s 0 (b.ns - 1) then 0 else 81) else 80
def opn (b : Book) (s : Int) : Book := if askE b s = 0 then b else noBook
theorem askE_ok {b : Book} {s : Int} (h : askE b s = 0) : Good b ∧ 0 ≤ s ∧ s < b.ns ∧ opn b s = b := by
 have ho : opn b s = b := if_pos h
 unfold askE at h
 split at h
 · rename_i hc
   split at h
   · rename_i hw
     have := within_iff.1 hw
     exact ⟨good hc, by omega, by omega, ho⟩
   · cases h
 · cases h
def lft (b : Book) (s p : Nat) : Int := has b s p + gets b (clear b s) p b.nd - owes b (clear b s) p b.nd
def worst (b : Book) (s : Nat) : Nat → Int
 | 0 => -1
 | k + 1 => if 0 < rnd b s k ∧ (worst b s k < 0 ∨ rnd b s k < rnd b s (worst b s k).toNat) then k else worst b s k
theorem worst_bd {b : Book} {s : Nat} : ∀ {k : Nat}, -1 ≤ worst b s k ∧ worst b s k < k
 | 0 => by simp [worst]
 | k + 1 => by
   have := worst_bd (b := b) (s := s) (k := k)
   simp only [worst]; split <;> omega
def firstS (b : Book) : Nat := srch (fun s => decide (0 ≤ worst b s b.nd)) b.ns 0
def ln (b : Book) (p : Nat) : Nat → Int
 | 0 => 0
 | k + 1 => max (ln b p k) (owes b b.due p b.nd - gets b b.due p b.nd - has b k p)
theorem pays_clear {b : Book} (g : Good b) {s : Nat} : Pays b (clear b s) := pays_it g _
end Cm
namespace Cm
theorem askE_bad {b : Book} {s : Int} (h : ¬ errOf b = 0) : askE b s = errOf b ∧ opn b s = noBook := by
 have h1 : chk b = false := by
   cases e : chk b with
   | false => rfl
   | true => exact absurd (err_zero.2 e) h
 have h2 : askE b s = 80 := by simp [askE, h1]
 have h3 : errOf b = 80 := by simp [errOf, h1]
 exact ⟨by rw [h2, h3], by unfold opn; rw [h2, if_neg (by omega)]⟩
theorem opn_bad {b : Book} {s : Int} (h : ¬ askE b s = 0) : opn b s = noBook := if_neg h
theorem askE_out {b : Book} {s : Int} (h : errOf b = 0) (hw : within s 0 (b.ns - 1) = false) : askE b s = 81 ∧ opn b s = noBook := by
 have h1 := err_zero.1 h
 have h2 : askE b s = 81 := by simp [askE, h1, hw]
 exact ⟨h2, by unfold opn; rw [h2, if_neg (by omega)]⟩
theorem askE_in {b : Book} {s : Int} (h : errOf b = 0) (hw : within s 0 (b.ns - 1) = true) : askE b s = 0 ∧ opn b s = b := by
 have h1 := err_zero.1 h
 have h2 : askE b s = 0 := by simp [askE, h1, hw]
 exact ⟨h2, if_pos h2⟩
theorem bk (b : Book) {Q : Prop} (h : Q) : b.nc = b.nc ∧ (∀ (i : Nat), i < b.nc → b.cash i = b.cash i) ∧ b.nd = b.nd ∧ (∀ (i : Nat), i < b.nd → b.frm i = b.frm i ∧ b.to i = b.to i ∧ b.due i = b.due i) ∧ b.ns = b.ns ∧ (∀ (i : Nat), i < b.ns → b.price i = b.price i ∧ b.nb i = b.nb i ∧ ∀ (j : Nat), j < b.nb i → b.bar i j = b.bar i j) ∧ Q :=
 ⟨rfl, fun _ _ => rfl, rfl, fun _ _ => ⟨rfl, rfl, rfl⟩, rfl, fun _ _ => ⟨rfl, rfl, fun _ _ => rfl⟩, h⟩
end Cm
namespace Cm
def brE (b : Book) : Int := if chk b then (if firstS b < b.ns then 0 else 4) else 80
def brS (b : Book) : Int := if brE b = 0 then firstS b else 0
def brD (b : Book) : Int := if brE b = 0 then worst b (firstS b) b.nd else 0
theorem srch_none {q : Nat → Bool} : ∀ {n k : Nat}, (∀ i, k ≤ i → i < k + n → q i = false) → srch q n k = k + n
 | 0, k, _ => rfl
 | n + 1, k, h => by
   simp only [srch, h k (Nat.le_refl _) (by omega), cond_false]
   rw [srch_none (fun i h1 h2 => h i (by omega) (by omega))]; omega
theorem firstS_none {b : Book} (h : ∀ s, s < b.ns → worst b s b.nd < 0) : firstS b = b.ns := by
 unfold firstS
 rw [srch_none (fun i _ h2 => decide_eq_false (by have := h i (by omega); omega))]; omega
theorem firstS_at {b : Book} {S : Nat} (hS : S < b.ns) (h : ∀ s, s < S → worst b s b.nd < 0) (h0 : 0 ≤ worst b S b.nd) : firstS b = S := by
 obtain ⟨a1, a2, a3, a4⟩ := srch_ok (q := fun s => decide (0 ≤ worst b s b.nd)) (n := b.ns) (k := 0) (j := S) (Nat.zero_le _) (by omega) (decide_eq_true h0)
 have a1 := of_decide_eq_true a1
 unfold firstS
 by_cases e : srch (fun s => decide (0 ≤ worst b s b.nd)) b.ns 0 < S
 · have := h _ e; omega
 · omega
theorem askE_zero {b : Book} : askE b 0 = errOf b := by
 unfold askE errOf
 split
 · rename_i h
   have := good h
   have h1 := this.ns1
   have : within 0 0 ((b.ns : Int) - 1) = true := within_iff.2 ⟨by omega, by omega⟩
   rw [this]; rfl
 · rfl
end Cm
namespace Cm
theorem br_bad {b : Book} (h : ¬ errOf b = 0) : brS b = 0 ∧ brD b = 0 ∧ brE b = errOf b := by
 have h1 : chk b = false := by
   cases e : chk b with
   | false => rfl
   | true => exact absurd (err_zero.2 e) h
 have h2 : brE b = 80 := by simp [brE, h1]
 have h3 : errOf b = 80 := by simp [errOf, h1]
 exact ⟨by simp [brS, h2], by simp [brD, h2], by rw [h2, h3]⟩
theorem br_none {b : Book} (h : errOf b = 0) (hn : ∀ s, s < b.ns → worst b s b.nd < 0) : brS b = 0 ∧ brD b = 0 ∧ brE b = 4 := by
 have h2 : brE b = 4 := by simp [brE, err_zero.1 h, firstS_none hn]
 exact ⟨by simp [brS, h2], by simp [brD, h2], h2⟩
theorem br_at {b : Book} (h : errOf b = 0) {S : Nat} (hS : S < b.ns) (hn : ∀ s, s < S → worst b s b.nd < 0) (h0 : 0 ≤ worst b S b.nd) : brS b = S ∧ brD b = worst b S b.nd ∧ brE b = 0 := by
 have e := firstS_at hS hn h0
 have h2 : brE b = 0 := by simp [brE, err_zero.1 h, e, hS]
 exact ⟨by simp [brS, h2, e], by simp [brD, h2, e], h2⟩
end Cm
