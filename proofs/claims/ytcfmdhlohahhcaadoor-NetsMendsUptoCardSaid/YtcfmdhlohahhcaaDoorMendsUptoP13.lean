/- Texts for the law of the last part, part 13. -/
import Derived.Test.YtcfmdhlohahhcaaDoorMendsUptoP12
set_option linter.unusedSimpArgs false
set_option linter.unusedVariables false
namespace Nm
open Go Go.Sx
structure Torn where
 w : Int
 h : Int
 n : Nat
 b : Nat → Nat → Int
 m : Int
 k : Int
def iR (n : Int) : Prop := -9223372036854775808 ≤ n ∧ n ≤ 9223372036854775807
def Torn.wf (t : Torn) : Prop := t.n < 4611686018427387904 ∧ ∀ i, i < t.n → iR (t.b i 0) ∧ iR (t.b i 1)
def tornTV (t : Torn) : TV := .a 5 (ofList [.int .i64 t.w, .int .i64 t.h, .vs 2 t.n (fun i j => .int .i64 (t.b i j)), .int .i64 t.m, .int .i64 t.k])
def barTV (f t : Int) : TV := .a 2 (ofList [.int .i64 f, .int .i64 t])
def barB (w h f t : Int) : Bool := within f 0 (w * h - 1) && within t 0 (w * h - 1) && (decide (t = f + w) || (decide (t = f + 1) && decide (t % w ≠ 0)))
def barEq (b : Nat → Nat → Int) (x y : Int) (i : Nat) : Bool := decide (b i 0 = x) && decide (b i 1 = y)
def newB (b : Nat → Nat → Int) (x y : Int) (i : Nat) : Bool := allB i fun j => !barEq b x y j
def tk0 (t : Torn) : Bool := within t.w 2 6 && within t.h 2 6 && within t.m 1 100 && within t.k 0 100
def tkO (t : Torn) (i : Nat) : Bool := barB t.w t.h (t.b i 0) (t.b i 1) && newB t.b (t.b i 0) (t.b i 1) i
def tkI (t : Torn) (i : Nat) : Bool := tk0 t && allB i (tkO t)
def tchk (t : Torn) : Bool := tkI t t.n
def tchkE (t : Torn) : Int := if tchk t then 0 else 23
def metM (b : Nat → Nat → Int) (g : Nat) (ks : List Int) : Option Int := match ks with
 | [x, y] => if newB b x y g then none else some 1
 | _ => none
theorem tk0_iff {t : Torn} : tk0 t = true ↔ (2 ≤ t.w ∧ t.w ≤ 6) ∧ (2 ≤ t.h ∧ t.h ≤ 6) ∧ (1 ≤ t.m ∧ t.m ≤ 100) ∧ 0 ≤ t.k ∧ t.k ≤ 100 := by
 simp only [tk0, Bool.and_eq_true, within_iff, and_assoc]
theorem tkI_succ {t : Torn} {i : Nat} : tkI t (i + 1) = (tkI t i && tkO t i) := by unfold tkI; rw [allB, ← Bool.and_assoc]
theorem met_step {b : Nat → Nat → Int} {g : Nat} {ks : List Int} : (if ks = [b g 0, b g (0 + 1)] then some (bif true then 1 else 0) else metM b g ks) = metM b (g + 1) ks := by
 match ks with
 | [] => rfl
 | [x] => simp [metM]
 | x :: y :: z :: l => simp [metM]
 | [x, y] =>
   show (if [x, y] = [b g 0, b g 1] then some 1 else if newB b x y g then none else some 1) = if newB b x y (g + 1) then none else some 1
   have e : newB b x y (g + 1) = (newB b x y g && !barEq b x y g) := rfl
   rw [e]
   by_cases h : [x, y] = [b g 0, b g 1]
   · rw [if_pos h]
     simp only [List.cons.injEq, and_true] at h
     have : barEq b x y g = true := by unfold barEq; rw [decide_eq_true h.1.symm, decide_eq_true h.2.symm]; rfl
     rw [this]; simp
   · rw [if_neg h]
     have : barEq b x y g = false := by
       cases q : barEq b x y g with
       | false => rfl
       | true =>
         unfold barEq at q
         rw [Bool.and_eq_true, decide_eq_true_eq, decide_eq_true_eq] at q
         exact absurd (by rw [q.1, q.2]) h
     rw [this]; simp
theorem met_new {b : Nat → Nat → Int} {g : Nat} {x y : Int} : (!decide (¬valOf (metM b g [x, y]) = 0)) = newB b x y g := by
 have e : valOf (metM b g [x, y]) = if newB b x y g = true then 0 else 1 := by
   show valOf (if newB b x y g then none else some 1) = _
   split <;> rfl
 simp only [e]
 cases newB b x y g <;> simp
end Nm
namespace Go.Proofs.YtcfmdhlohahhcaaDoor
open Go Go.Sx Nm
set_option maxRecDepth 100000
structure BrAsk where
 t : Torn
 f : Int
 o : Int
def sBarP : Sig := ⟨BrAsk, fun a => [tornTV a.t, barTV a.f a.o], fun a => tk0 a.t = true ∧ a.t.n < 4611686018427387904, fun a => [.v (.c (.bool (barB a.t.w a.t.h a.f a.o)))]⟩
theorem wh_bd {w h : Int} (h1 : 2 ≤ w) (h2 : w ≤ 6) (h3 : 2 ≤ h) (h4 : h ≤ 6) : 4 ≤ w * h ∧ w * h ≤ 36 := by
 have : w = 2 ∨ w = 3 ∨ w = 4 ∨ w = 5 ∨ w = 6 := by omega
 rcases this with e | e | e | e | e <;> subst e <;> omega
theorem q78 (a : sBarP.α) (ha : sBarP.pre a) : CallQ Tryd.prog E0 78 (sBarP.arg a) (sBarP.res a) := by
 obtain ⟨t, f, o⟩ := a
 refine bare_say E0_ok [(54, sIn)] (show SigsOk Tryd.prog E0 [(54, sIn)] from (SigsOk.nil.cons u54 fun x _ => q54 x)) [] EvensOk.nil runs { live := true } (fuel := 8) ?_
 refine of_red (q := inRange IntKind.i64 (t.w * t.h)∧inRange IntKind.i64 (t.w * t.h - (1 : Int))∧∃ (x : Int × Int × Int), ((True∧f = x.fst)∧(True∧(0 : Int) = x.snd.fst)∧(True∧t.w * t.h - (1 : Int) = x.snd.snd)∧True)∧True∧((!within x.fst x.snd.fst x.snd.snd) = true→True∧barB t.w t.h f o = false)∧((!within x.fst x.snd.fst x.snd.snd) = false→inRange IntKind.i64 (t.w * t.h - (1 : Int))∧∃ (x : Int × Int × Int), ((True∧o = x.fst)∧(True∧(0 : Int) = x.snd.fst)∧(True∧t.w * t.h - (1 : Int) = x.snd.snd)∧True)∧True∧((!within x.fst x.snd.fst x.snd.snd) = true→True∧barB t.w t.h f o = false)∧((!within x.fst x.snd.fst x.snd.snd) = false→inRange IntKind.i64 (f + t.w)∧((o == f + t.w) = true→True∧barB t.w t.h f o = true)∧((o == f + t.w) = false→inRange IntKind.i64 (f + (1 : Int))∧((o == f + (1 : Int)) = true→t.w ≠ (0 : Int)∧True∧(o.tmod t.w != (0 : Int)) = barB t.w t.h f o)∧((o == f + (1 : Int)) = false→True∧barB t.w t.h f o = false))))) (by kernel_rfl) ?_
 simp only [true_and, and_true, inR, Prod.exists, Prod.forall, and_assoc, exists_and_left, exists_eq_left', exists_eq_left, forall_eq, exists_const, forall_const, loopN, loopM, fa2, fas, fas2, dup1, dup2, dup3, dup4, ite_true, exhs, exhn, exhz, exho, exA, ex1, ex2, ex3, ex4, ex5, beqI, bneI, decide_true, Bool.true_and, decide_eq_true_eq, decide_eq_false_iff_not, ne_eq, Decidable.not_not]
 obtain ⟨h0, hw⟩ := (show tk0 t = true ∧ t.n < 4611686018427387904 from ha)
 obtain ⟨⟨w1, w2⟩, ⟨h1, h2⟩, _⟩ := tk0_iff.1 h0
 have P := wh_bd w1 w2 h1 h2
 refine ⟨by omega, by omega, by omega, by omega, fun a => ?_, fun a => ⟨by omega, by omega, fun b => ?_, fun b => ?_⟩⟩
 · rw [Bool.not_eq_true'] at a; simp [barB, a]
 · rw [Bool.not_eq_true'] at b; simp [barB, b]
 · rw [Bool.not_eq_false'] at a b
   have a' := Nm.within_iff.1 a
   have b' := Nm.within_iff.1 b
   refine ⟨by omega, by omega, fun c => ?_, fun c => ⟨by omega, by omega, fun d => ⟨by omega, ?_⟩, fun d => ?_⟩⟩
   · unfold barB; rw [a, b, decide_eq_true c]; rfl
   · rw [Int.tmod_eq_emod_of_nonneg b'.1]; unfold barB; rw [a, b, decide_eq_false c, decide_eq_true d]; rfl
   · unfold barB; rw [a, b, decide_eq_false c, decide_eq_false d]; rfl
structure BwAsk where
 f : Int
 o : Int
 w : Int
 h : Int
def sBarR : Sig := ⟨BwAsk, fun a => [barTV a.f a.o, intC a.w, intC a.h], fun a => (2 ≤ a.w ∧ a.w ≤ 6) ∧ 2 ≤ a.h ∧ a.h ≤ 6, fun a => [.v (.c (.bool (barB a.w a.h a.f a.o)))]⟩
theorem q79 (a : sBarR.α) (ha : sBarR.pre a) : CallQ Tryd.prog E0 79 (sBarR.arg a) (sBarR.res a) := by
 obtain ⟨f, o, w, h⟩ := a
 refine bare_say E0_ok [(43, sMod), (38, sIn)] (show SigsOk Tryd.prog E0 [(43, sMod), (38, sIn)] from ((SigsOk.nil.cons u38 fun x _ => q38 x).cons u43 q43)) [] EvensOk.nil runs { live := true } (fuel := 8) ?_
 refine of_red (q := inRange IntKind.i64 (w * h)∧inRange IntKind.i64 (w * h - (1 : Int))∧∃ (x : Int × Int × Int), ((True∧f = x.fst)∧(True∧(0 : Int) = x.snd.fst)∧(True∧w * h - (1 : Int) = x.snd.snd)∧True)∧True∧((!within x.fst x.snd.fst x.snd.snd) = true→True∧barB w h f o = false)∧((!within x.fst x.snd.fst x.snd.snd) = false→inRange IntKind.i64 (w * h)∧inRange IntKind.i64 (w * h - (1 : Int))∧∃ (x : Int × Int × Int), ((True∧o = x.fst)∧(True∧(0 : Int) = x.snd.fst)∧(True∧w * h - (1 : Int) = x.snd.snd)∧True)∧True∧((!within x.fst x.snd.fst x.snd.snd) = true→True∧barB w h f o = false)∧((!within x.fst x.snd.fst x.snd.snd) = false→inRange IntKind.i64 (f + w)∧((o == f + w) = true→True∧barB w h f o = true)∧((o == f + w) = false→inRange IntKind.i64 (f + (1 : Int))∧((o == f + (1 : Int)) = true→∃ (x : Int × Int), ((True∧o = x.fst)∧(True∧w = x.snd)∧True)∧((0 : Int) < x.snd∧x.snd≤(9223372036854775807 : Int))∧True∧(x.fst % x.snd != (0 : Int)) = barB w h f o)∧((o == f + (1 : Int)) = false→True∧barB w h f o = false))))) (by kernel_rfl) ?_
 simp only [true_and, and_true, inR, Prod.exists, Prod.forall, and_assoc, exists_and_left, exists_eq_left', exists_eq_left, forall_eq, exists_const, forall_const, loopN, loopM, fa2, fas, fas2, dup1, dup2, dup3, dup4, ite_true, exhs, exhn, exhz, exho, exA, ex1, ex2, ex3, ex4, ex5, beqI, bneI, decide_true, Bool.true_and, decide_eq_true_eq, decide_eq_false_iff_not, ne_eq, Decidable.not_not]
 obtain ⟨⟨w1, w2⟩, h1, h2⟩ := (show (2 ≤ w ∧ w ≤ 6) ∧ 2 ≤ h ∧ h ≤ 6 from ha)
 have P := wh_bd w1 w2 h1 h2
 refine ⟨by omega, by omega, by omega, by omega, fun a => ?_, fun a => ⟨by omega, by omega, by omega, by omega, fun b => ?_, fun b => ?_⟩⟩
 · rw [Bool.not_eq_true'] at a; simp [barB, a]
 · rw [Bool.not_eq_true'] at b; simp [barB, b]
 · rw [Bool.not_eq_false'] at a b
   have a' := Nm.within_iff.1 a
   have b' := Nm.within_iff.1 b
   refine ⟨by omega, by omega, fun c => ?_, fun c => ⟨by omega, by omega, fun d => ⟨by omega, by omega, ?_⟩, fun d => ?_⟩⟩
   · unfold barB; rw [a, b, decide_eq_true c]; rfl
   · unfold barB; rw [a, b, decide_eq_false c, decide_eq_true d]; rfl
   · unfold barB; rw [a, b, decide_eq_false c, decide_eq_false d]; rfl
def sCkT : Sig := ⟨Torn, fun t => [tornTV t], Torn.wf, fun t => [.v (intC (tchkE t))]⟩
def aCk0 (t : Torn) : Ann := { G := Unit, ok := fun _ _ => True, dom := fun _ => [], tm := fun _ _ => [(4, .t (.c (.bool (tk0 t))))], hp := fun _ _ => [], mu := fun _ _ => 0 }
def aCk (t : Torn) : Ann := { G := Nat, ok := fun _ g => g ≤ t.n, dom := fun st => [osN (st.tm 5)], tm := fun _ g => [(4, .t (.c (.bool (tkI t g)))), (37, .t (intC g))], hp := fun st g => [(osN (st.tm 5), .self, some (.mp MB (metM t.b g)))], mu := fun _ g => t.n - g }
def aCk1 (t : Torn) : Ann := { G := Nat, ok := fun st g => isI (st.tm 37) g, dom := fun _ => [], tm := fun _ g => [(4, .t (.c (.bool (tkI t (g + 1)))))], hp := fun _ _ => [], mu := fun _ _ => 0 }
theorem q30 (t : Torn) (ht : t.wf) : CallQ Tryd.prog E0 30 (sCkT.arg t) (sCkT.res t) := by
 refine bare_say E0_ok [(78, sBarP), (54, sIn)] (show SigsOk Tryd.prog E0 [(78, sBarP), (54, sIn)] from ((SigsOk.nil.cons u54 fun x _ => q54 x).cons u78 q78)) [] EvensOk.nil runs { live := true, l := [(30, 5, aCk t)], c := [(30, 3, aCk0 t), (30, 8, aCk1 t)] } (fuel := 8) ?_
 refine of_red (q := (∃ (x : Int × Int × Int), ((True∧t.w = x.fst)∧(True∧(2 : Int) = x.snd.fst)∧(True∧(6 : Int) = x.snd.snd)∧True)∧True∧(within x.fst x.snd.fst x.snd.snd = true→∃ (x : Int × Int × Int), ((True∧t.h = x.fst)∧(True∧(2 : Int) = x.snd.fst)∧(True∧(6 : Int) = x.snd.snd)∧True)∧True∧(within x.fst x.snd.fst x.snd.snd = true→∃ (x : Int × Int × Int), ((True∧t.m = x.fst)∧(True∧(1 : Int) = x.snd.fst)∧(True∧(100 : Int) = x.snd.snd)∧True)∧True∧(within x.fst x.snd.fst x.snd.snd = true→∃ (x : Int × Int × Int), ((True∧t.k = x.fst)∧(True∧(0 : Int) = x.snd.fst)∧(True∧(100 : Int) = x.snd.snd)∧True)∧True∧∃ (g : Unit), True∧True∧((True∧within x.fst x.snd.fst x.snd.snd = tk0 t)∧True)∧True)∧(within x.fst x.snd.fst x.snd.snd = false→∃ (g : Unit), True∧True∧((True∧tk0 t = false)∧True)∧True))∧(within x.fst x.snd.fst x.snd.snd = false→∃ (g : Unit), True∧True∧((True∧tk0 t = false)∧True)∧True))∧(within x.fst x.snd.fst x.snd.snd = false→∃ (g : Unit), True∧True∧((True∧tk0 t = false)∧True)∧True))∧∀ (g : Unit), True→(∃ (g : Nat), g≤t.n∧True∧((True∧tk0 t = tkI t g)∧(True∧(0 : Int) = (↑g : Int))∧True)∧(True∧∀ (ks : List Int), none = metM t.b g ks)∧True)∧∀ (g : Nat), g≤t.n→(decide ((↑g : Int) < (↑t.n : Int)) = true→(0 : Int)≤(↑g : Int)∧(↑g : Int) < (↑t.n : Int)∧((tkI t g = true→∃ (x : BrAsk), ((True∧((((True∧True∧t.w = x.t.w)∧True∧t.h = x.t.h)∧True∧True∧t.n = x.t.n∧∀ (i : Nat), i < t.n→(True∧t.b i 0 = x.t.b i 0)∧t.b i 1 = x.t.b i 1)∧True∧t.m = x.t.m)∧True∧t.k = x.t.k)∧(True∧(True∧True∧t.b g 0 = x.f)∧True∧t.b g 1 = x.o)∧True)∧(tk0 x.t = true∧x.t.n < (4611686018427387904 : Nat))∧(barB x.t.w x.t.h x.f x.o = true→inRange IntKind.i64 (t.b g (0 : Nat))∧inRange IntKind.i64 (t.b g ((0 : Nat) + (1 : Nat)))∧∃ (g_1 : Nat), (↑g : Int) = (↑g_1 : Int)∧True∧((True∧(!decide (valOf (metM t.b g [t.b g (0 : Nat), t.b g ((0 : Nat) + (1 : Nat))]) ≠ (0 : Int))) = tkI t (g_1 + (1 : Nat)))∧True)∧True)∧(barB x.t.w x.t.h x.f x.o = false→∃ (g_1 : Nat), (↑g : Int) = (↑g_1 : Int)∧True∧((True∧tkI t (g_1 + (1 : Nat)) = false)∧True)∧True))∧(tkI t g = false→∃ (g_1 : Nat), (↑g : Int) = (↑g_1 : Int)∧True∧((True∧tkI t (g_1 + (1 : Nat)) = false)∧True)∧True))∧∀ (g_1 : Nat), (↑g : Int) = (↑g_1 : Int)→inRange IntKind.i64 (t.b g (0 : Nat))∧inRange IntKind.i64 (t.b g ((0 : Nat) + (1 : Nat)))∧inRange IntKind.i64 ((↑g : Int) + (1 : Int))∧∃ (g' : Nat), g'≤t.n∧t.n - g' < t.n - g∧True∧((True∧tkI t (g_1 + (1 : Nat)) = tkI t g')∧(True∧(↑g : Int) + (1 : Int) = (↑g' : Int))∧True)∧(True∧∀ (ks : List Int), (if ks = [t.b g (0 : Nat), t.b g ((0 : Nat) + (1 : Nat))] then some (bif true then (1 : Int) else (0 : Int)) else metM t.b g ks) = metM t.b g' ks)∧True)∧(decide ((↑g : Int) < (↑t.n : Int)) = false→((!tkI t g) = true→True∧(23 : Int) = tchkE t)∧((!tkI t g) = false→True∧(0 : Int) = tchkE t))) (by kernel_rfl) ?_
 simp only [true_and, and_true, inR, Prod.exists, Prod.forall, and_assoc, exists_and_left, exists_eq_left', exists_eq_left, forall_eq, exists_const, forall_const, loopN, loopM, fa2, fas, fas2, dup1, dup2, dup3, dup4, ite_true, exhs, exhn, exhz, exho, exA, ex1, ex2, ex3, ex4, ex5, beqI, bneI, decide_true, Bool.true_and, decide_eq_true_eq, decide_eq_false_iff_not, ne_eq, Decidable.not_not]
 obtain ⟨hw, hb⟩ := (show t.n < 4611686018427387904 ∧ ∀ i, i < t.n → iR (t.b i 0) ∧ iR (t.b i 1) from ht)
 have k0 : ∀ a b c d : Bool, within t.w 2 6 = a → within t.h 2 6 = b → within t.m 1 100 = c → within t.k 0 100 = d → tk0 t = (a && b && c && d) := fun a b c d e1 e2 e3 e4 => by unfold tk0; rw [e1, e2, e3, e4]
 refine ⟨fun a => ⟨fun b => ⟨fun c => by rw [k0 _ _ _ _ a b c rfl]; simp, fun c => by rw [k0 _ _ _ _ a b c rfl]; simp⟩, fun b => by rw [k0 _ _ _ _ a b rfl rfl]; simp⟩, fun a => by rw [k0 _ _ _ _ a rfl rfl rfl]; simp, ⟨0, by omega, by unfold tkI allB; rw [Bool.and_true], rfl, fun ks => ?_⟩, fun g hg => ⟨by omega, by omega, fun hk => ?_, fun hk => ?_, ?_⟩, ?_, ?_⟩
 · unfold metM
   split
   · rfl
   · rfl
 · have h0 : tk0 t = true := by unfold tkI at hk; rw [Bool.and_eq_true] at hk; exact hk.1
   refine ⟨⟨t, t.b g 0, t.b g 1⟩, rfl, rfl, rfl, fun _ _ => ⟨rfl, rfl⟩, rfl, rfl, rfl, rfl, h0, hw, fun hB => ⟨(hb g hg).1.1, (hb g hg).1.2, (hb g hg).2.1, (hb g hg).2.2, ?_⟩, fun hB => ?_⟩
   · have hB : barB t.w t.h (t.b g 0) (t.b g 1) = true := hB
     rw [tkI_succ, hk]
     unfold tkO
     rw [hB]
     exact met_new
   · have hB : barB t.w t.h (t.b g 0) (t.b g 1) = false := hB
     rw [tkI_succ]
     unfold tkO
     rw [hB]; simp
 · rw [tkI_succ, hk]; rfl
 · refine ⟨(hb g hg).1.1, (hb g hg).1.2, (hb g hg).2.1, (hb g hg).2.2, by omega, by omega, g + 1, by omega, by omega, rfl, rfl, fun ks => met_step⟩
 · intro h; rw [Bool.not_eq_true'] at h; unfold tchkE tchk; rw [h]; rfl
 · intro h; rw [Bool.not_eq_false'] at h; unfold tchkE tchk; rw [h]; rfl
def aCr0 (t : Torn) : Ann := { G := Unit, ok := fun _ _ => True, dom := fun _ => [], tm := fun _ _ => [(3, .t (.c (.bool (tk0 t))))], hp := fun _ _ => [], mu := fun _ _ => 0 }
def aCr (t : Torn) : Ann := { G := Nat, ok := fun _ g => g ≤ t.n, dom := fun _ => [], tm := fun _ g => [(3, .t (.c (.bool (tkI t g)))), (4, .t (intC g))], hp := fun _ _ => [], mu := fun _ g => t.n - g }
def aCr2 (t : Torn) : Ann := { G := Nat × Nat, ok := fun st g => isI (st.tm 4) g.2 ∧ g.1 ≤ g.2, dom := fun _ => [], tm := fun _ g => [(3, .t (.c (.bool (barB t.w t.h (t.b g.2 0) (t.b g.2 1) && newB t.b (t.b g.2 0) (t.b g.2 1) g.1)))), (5, .t (intC g.1))], hp := fun _ _ => [], mu := fun _ g => g.2 - g.1 }
theorem q31 (t : Torn) (ht : t.wf) : CallQ Tryd.prog E0 31 (sCkT.arg t) (sCkT.res t) := by
 refine bare_say E0_ok [(79, sBarR), (38, sIn)] (show SigsOk Tryd.prog E0 [(79, sBarR), (38, sIn)] from ((SigsOk.nil.cons u38 fun x _ => q38 x).cons u79 q79)) [] EvensOk.nil runs { live := true, l := [(31, 3, aCr t), (31, 7, aCr2 t)], c := [(31, 2, aCr0 t)] } (fuel := 8) ?_
 refine of_red (q := (∃ (x : Int × Int × Int), ((True∧t.w = x.fst)∧(True∧(2 : Int) = x.snd.fst)∧(True∧(6 : Int) = x.snd.snd)∧True)∧True∧(within x.fst x.snd.fst x.snd.snd = true→∃ (x : Int × Int × Int), ((True∧t.h = x.fst)∧(True∧(2 : Int) = x.snd.fst)∧(True∧(6 : Int) = x.snd.snd)∧True)∧True∧(within x.fst x.snd.fst x.snd.snd = true→∃ (x : Int × Int × Int), ((True∧t.m = x.fst)∧(True∧(1 : Int) = x.snd.fst)∧(True∧(100 : Int) = x.snd.snd)∧True)∧True∧(within x.fst x.snd.fst x.snd.snd = true→∃ (x : Int × Int × Int), ((True∧t.k = x.fst)∧(True∧(0 : Int) = x.snd.fst)∧(True∧(100 : Int) = x.snd.snd)∧True)∧True∧∃ (g : Unit), True∧True∧((True∧within x.fst x.snd.fst x.snd.snd = tk0 t)∧True)∧True)∧(within x.fst x.snd.fst x.snd.snd = false→∃ (g : Unit), True∧True∧((True∧tk0 t = false)∧True)∧True))∧(within x.fst x.snd.fst x.snd.snd = false→∃ (g : Unit), True∧True∧((True∧tk0 t = false)∧True)∧True))∧(within x.fst x.snd.fst x.snd.snd = false→∃ (g : Unit), True∧True∧((True∧tk0 t = false)∧True)∧True))∧∀ (g : Unit), True→(∃ (g : Nat), g≤t.n∧True∧((True∧tk0 t = tkI t g)∧(True∧(0 : Int) = (↑g : Int))∧True)∧True)∧∀ (g : Nat), g≤t.n→(tkI t g = true→(decide ((↑g : Int) < (↑t.n : Int)) = true→(0 : Int)≤(↑g : Int)∧(↑g : Int) < (↑t.n : Int)∧∃ (x : BwAsk), ((True∧(True∧True∧t.b g 0 = x.f)∧True∧t.b g 1 = x.o)∧(True∧t.w = x.w)∧(True∧t.h = x.h)∧True)∧(((2 : Int)≤x.w∧x.w≤(6 : Int))∧(2 : Int)≤x.h∧x.h≤(6 : Int))∧(∃ (g_1 : Nat × Nat), ((↑g : Int) = (↑g_1.snd : Int)∧g_1.fst≤g_1.snd)∧True∧((True∧barB x.w x.h x.f x.o = (barB t.w t.h (t.b g_1.snd (0 : Nat)) (t.b g_1.snd (1 : Nat)) && newB t.b (t.b g_1.snd (0 : Nat)) (t.b g_1.snd (1 : Nat)) g_1.fst))∧(True∧(0 : Int) = (↑g_1.fst : Int))∧True)∧True)∧∀ (g_1 : Nat × Nat), (↑g : Int) = (↑g_1.snd : Int)∧g_1.fst≤g_1.snd→(decide ((↑g_1.fst : Int) < (↑g : Int)) = true→((barB t.w t.h (t.b g_1.snd (0 : Nat)) (t.b g_1.snd (1 : Nat)) && newB t.b (t.b g_1.snd (0 : Nat)) (t.b g_1.snd (1 : Nat)) g_1.fst) = true→(0 : Int)≤(↑g_1.fst : Int)∧(↑g_1.fst : Int) < (↑t.n : Int)∧(0 : Int)≤(↑g : Int)∧(↑g : Int) < (↑t.n : Int)∧inRange IntKind.i64 ((↑g_1.fst : Int) + (1 : Int))∧∃ (g' : Nat × Nat), ((↑g : Int) = (↑g'.snd : Int)∧g'.fst≤g'.snd)∧g'.snd - g'.fst < g_1.snd - g_1.fst∧True∧((True∧(!(t.b g_1.fst (0 : Nat) == t.b g (0 : Nat) && (t.b g_1.fst (1 : Nat) == t.b g (1 : Nat) && true))) = (barB t.w t.h (t.b g'.snd (0 : Nat)) (t.b g'.snd (1 : Nat)) && newB t.b (t.b g'.snd (0 : Nat)) (t.b g'.snd (1 : Nat)) g'.fst))∧(True∧(↑g_1.fst : Int) + (1 : Int) = (↑g'.fst : Int))∧True)∧True)∧((barB t.w t.h (t.b g_1.snd (0 : Nat)) (t.b g_1.snd (1 : Nat)) && newB t.b (t.b g_1.snd (0 : Nat)) (t.b g_1.snd (1 : Nat)) g_1.fst) = false→inRange IntKind.i64 ((↑g_1.fst : Int) + (1 : Int))∧∃ (g' : Nat × Nat), ((↑g : Int) = (↑g'.snd : Int)∧g'.fst≤g'.snd)∧g'.snd - g'.fst < g_1.snd - g_1.fst∧True∧((True∧(barB t.w t.h (t.b g'.snd (0 : Nat)) (t.b g'.snd (1 : Nat)) && newB t.b (t.b g'.snd (0 : Nat)) (t.b g'.snd (1 : Nat)) g'.fst) = false)∧(True∧(↑g_1.fst : Int) + (1 : Int) = (↑g'.fst : Int))∧True)∧True))∧(decide ((↑g_1.fst : Int) < (↑g : Int)) = false→inRange IntKind.i64 ((↑g : Int) + (1 : Int))∧∃ (g' : Nat), g'≤t.n∧t.n - g' < t.n - g∧True∧((True∧(barB t.w t.h (t.b g_1.snd (0 : Nat)) (t.b g_1.snd (1 : Nat)) && newB t.b (t.b g_1.snd (0 : Nat)) (t.b g_1.snd (1 : Nat)) g_1.fst) = tkI t g')∧(True∧(↑g : Int) + (1 : Int) = (↑g' : Int))∧True)∧True))∧(decide ((↑g : Int) < (↑t.n : Int)) = false→((!tkI t g) = true→True∧(23 : Int) = tchkE t)∧((!tkI t g) = false→True∧(0 : Int) = tchkE t)))∧(tkI t g = false→((!tkI t g) = true→True∧(23 : Int) = tchkE t)∧((!tkI t g) = false→True∧(0 : Int) = tchkE t))) (by kernel_rfl) ?_
 simp only [true_and, and_true, inR, Prod.exists, Prod.forall, and_assoc, exists_and_left, exists_eq_left', exists_eq_left, forall_eq, exists_const, forall_const, loopN, loopM, fa2, fas, fas2, dup1, dup2, dup3, dup4, ite_true, exhs, exhn, exhz, exho, exA, ex1, ex2, ex3, ex4, ex5, beqI, bneI, decide_true, Bool.true_and, decide_eq_true_eq, decide_eq_false_iff_not, ne_eq, Decidable.not_not]
 obtain ⟨hw, hb⟩ := (show t.n < 4611686018427387904 ∧ ∀ i, i < t.n → iR (t.b i 0) ∧ iR (t.b i 1) from ht)
 have k0 : ∀ a b c d : Bool, within t.w 2 6 = a → within t.h 2 6 = b → within t.m 1 100 = c → within t.k 0 100 = d → tk0 t = (a && b && c && d) := fun a b c d e1 e2 e3 e4 => by unfold tk0; rw [e1, e2, e3, e4]
 have fin : ∀ g, g ≤ t.n → tkI t g = tchk t → ((!tkI t g) = true → (23 : Int) = tchkE t) ∧ ((!tkI t g) = false → (0 : Int) = tchkE t) := fun g _ e => by
   rw [e]; unfold tchkE
   exact ⟨fun h => by rw [Bool.not_eq_true'] at h; rw [h]; rfl, fun h => by rw [Bool.not_eq_false'] at h; rw [h]; rfl⟩
 refine ⟨fun a => ⟨fun b => ⟨fun c => by rw [k0 _ _ _ _ a b c rfl]; simp, fun c => by rw [k0 _ _ _ _ a b c rfl]; simp⟩, fun b => by rw [k0 _ _ _ _ a b rfl rfl]; simp⟩, fun a => by rw [k0 _ _ _ _ a rfl rfl rfl]; simp, by omega, by unfold tkI allB; rw [Bool.and_true], fun g hg => ⟨fun hk => ⟨fun hlt => ?_, fun hge => ?_⟩, fun hk => ?_⟩⟩
 · have h0 : tk0 t = true := by unfold tkI at hk; rw [Bool.and_eq_true] at hk; exact hk.1
   obtain ⟨⟨w1, w2⟩, ⟨h1, h2⟩, _⟩ := tk0_iff.1 h0
   refine ⟨by omega, by omega, ⟨t.b g 0, t.b g 1, t.w, t.h⟩, rfl, rfl, rfl, rfl, w1, w2, h1, h2, by omega, ?_, fun a b hab => ?_⟩
   · unfold newB allB; rw [Bool.and_true]
   · obtain ⟨eb, hle⟩ := hab
     obtain rfl : b = g := by omega
     refine ⟨fun hag => ⟨fun hT => ⟨by omega, by omega, by omega, by omega, by omega, by omega, by omega, by omega, ?_⟩, fun hF => ⟨by omega, by omega, by omega, by omega, ?_⟩⟩, fun hag => ⟨by omega, by omega, by omega, by omega, ?_⟩⟩
     · rw [Bool.and_eq_true] at hT
       have e : newB t.b (t.b b 0) (t.b b 1) (a + 1) = (newB t.b (t.b b 0) (t.b b 1) a && !barEq t.b (t.b b 0) (t.b b 1) a) := rfl
       rw [e, hT.1, hT.2]
       unfold barEq
       simp
     · have e : newB t.b (t.b b 0) (t.b b 1) (a + 1) = (newB t.b (t.b b 0) (t.b b 1) a && !barEq t.b (t.b b 0) (t.b b 1) a) := rfl
       rw [e, ← Bool.and_assoc, hF]; rfl
     · obtain rfl : a = b := by omega
       rw [tkI_succ, hk]; rfl
 · exact fin g hg (by unfold tchk; rw [show g = t.n by omega])
 · refine fin g hg ?_
   rw [hk]
   symm
   cases e : tchk t with
   | false => rfl
   | true =>
     unfold tchk at e
     unfold tkI at e hk
     rw [Bool.and_eq_true] at e
     have : allB g (tkO t) = true := allB_iff.2 fun i hi => allB_iff.1 e.2 i (by omega)
     rw [e.1, this] at hk; cases hk
structure TwAsk where
 t : Torn
 p : Nat
def twV (t : Torn) (p : Int) : Int := t.m * t.n + 2 * t.k * p
def sTwi : Sig := ⟨TwAsk, fun a => [tornTV a.t, intC a.p], fun a => tk0 a.t = true ∧ a.t.n ≤ 72 ∧ a.p ≤ 1000, fun a => [.v (intC (twV a.t a.p))]⟩
theorem tw_bd {t : Torn} {p : Nat} (h0 : tk0 t = true) (hn : t.n ≤ 72) (hp : p ≤ 1000) : (0 ≤ t.m * (t.n : Int) ∧ t.m * (t.n : Int) ≤ 7200) ∧ (0 ≤ 2 * t.k ∧ 2 * t.k ≤ 200) ∧ 0 ≤ 2 * t.k * (p : Int) ∧ 2 * t.k * (p : Int) ≤ 200000 := by
 obtain ⟨_, _, ⟨m1, m2⟩, k1, k2⟩ := tk0_iff.1 h0
 have a := Int.mul_nonneg (show 0 ≤ t.m by omega) (show 0 ≤ (t.n : Int) by omega)
 have b := Int.mul_le_mul m2 (show (t.n : Int) ≤ 72 by omega) (by omega) (by omega)
 have c := Int.mul_nonneg (show 0 ≤ 2 * t.k by omega) (show 0 ≤ (p : Int) by omega)
 have d := Int.mul_le_mul (show 2 * t.k ≤ 200 by omega) (show (p : Int) ≤ 1000 by omega) (by omega) (by omega)
 omega
theorem q75 (a : sTwi.α) (ha : sTwi.pre a) : CallQ Tryd.prog E0 75 (sTwi.arg a) (sTwi.res a) := by
 obtain ⟨t, p⟩ := a
 refine bare_say E0_ok [] (show SigsOk Tryd.prog E0 [] from SigsOk.nil) [] EvensOk.nil runs { live := true } (fuel := 8) ?_
 refine of_red (q := inRange IntKind.i64 (t.m * (↑t.n : Int))∧inRange IntKind.i64 ((2 : Int) * t.k)∧inRange IntKind.i64 ((2 : Int) * t.k * (↑p : Int))∧inRange IntKind.i64 (t.m * (↑t.n : Int) + (2 : Int) * t.k * (↑p : Int))∧True∧t.m * (↑t.n : Int) + (2 : Int) * t.k * (↑p : Int) = twV t (↑p : Int)) (by kernel_rfl) ?_
 simp only [true_and, and_true, inR, Prod.exists, Prod.forall, and_assoc, exists_and_left, exists_eq_left', exists_eq_left, forall_eq, exists_const, forall_const, loopN, loopM, fa2, fas, fas2, dup1, dup2, dup3, dup4, ite_true, exhs, exhn, exhz, exho, exA, ex1, ex2, ex3, ex4, ex5, beqI, bneI, decide_true, Bool.true_and, decide_eq_true_eq, decide_eq_false_iff_not, ne_eq, Decidable.not_not]
 obtain ⟨h0, hn, hp⟩ := (show tk0 t = true ∧ t.n ≤ 72 ∧ p ≤ 1000 from ha)
 have B := tw_bd h0 hn hp
 unfold twV
 repeat (refine And.intro (by omega) ?_)
 rfl
theorem q77 (a : sTwi.α) (ha : sTwi.pre a) : CallQ Tryd.prog E0 77 (sTwi.arg a) (sTwi.res a) := by
 obtain ⟨t, p⟩ := a
 refine bare_say E0_ok [] (show SigsOk Tryd.prog E0 [] from SigsOk.nil) [] EvensOk.nil runs { live := true } (fuel := 8) ?_
 refine of_red (q := inRange IntKind.i64 (t.m * (↑t.n : Int))∧inRange IntKind.i64 ((2 : Int) * t.k)∧inRange IntKind.i64 ((2 : Int) * t.k * (↑p : Int))∧inRange IntKind.i64 (t.m * (↑t.n : Int) + (2 : Int) * t.k * (↑p : Int))∧True∧t.m * (↑t.n : Int) + (2 : Int) * t.k * (↑p : Int) = twV t (↑p : Int)) (by kernel_rfl) ?_
 simp only [true_and, and_true, inR, Prod.exists, Prod.forall, and_assoc, exists_and_left, exists_eq_left', exists_eq_left, forall_eq, exists_const, forall_const, loopN, loopM, fa2, fas, fas2, dup1, dup2, dup3, dup4, ite_true, exhs, exhn, exhz, exho, exA, ex1, ex2, ex3, ex4, ex5, beqI, bneI, decide_true, Bool.true_and, decide_eq_true_eq, decide_eq_false_iff_not, ne_eq, Decidable.not_not]
 obtain ⟨h0, hn, hp⟩ := (show tk0 t = true ∧ t.n ≤ 72 ∧ p ≤ 1000 from ha)
 have B := tw_bd h0 hn hp
 unfold twV
 repeat (refine And.intro (by omega) ?_)
 rfl
end Go.Proofs.YtcfmdhlohahhcaaDoor
namespace Nm
open Go Go.Sx
theorem pigeon : ∀ (m n : Nat) (f : Nat → Nat), (∀ i, i < n → f i < m) → (∀ i, i < n → ∀ j, j < n → f i = f j → i = j) → n ≤ m
 | 0, n, f, hf, _ => by
   cases n with
   | zero => omega
   | succ n => exact absurd (hf 0 (by omega)) (by omega)
 | m + 1, n, f, hf, hi => by
   cases n with
   | zero => omega
   | succ n =>
     by_cases h : ∃ i0, i0 < n + 1 ∧ f i0 = m
     · obtain ⟨i0, h0, e0⟩ := h
       have g := pigeon m n (fun i => if i = i0 then f n else f i) (fun i hin => by
         show (if i = i0 then f n else f i) < m
         by_cases c : i = i0
         · rw [if_pos c]
           have a := hf n (by omega)
           have b : f n ≠ m := fun e => by
             have := hi n (by omega) i0 h0 (e.trans e0.symm)
             omega
           omega
         · rw [if_neg c]
           have a := hf i (by omega)
           have b : f i ≠ m := fun e => c (hi i (by omega) i0 h0 (e.trans e0.symm))
           omega) (fun i hin j hj e => by
         have e : (if i = i0 then f n else f i) = (if j = i0 then f n else f j) := e
         by_cases c : i = i0 <;> by_cases d : j = i0
         · omega
         · rw [if_pos c, if_neg d] at e
           have := hi n (by omega) j (by omega) e
           omega
         · rw [if_neg c, if_pos d] at e
           have := hi i (by omega) n (by omega) e
           omega
         · rw [if_neg c, if_neg d] at e
           exact hi i (by omega) j (by omega) e)
       omega
     · have g := pigeon m (n + 1) f (fun i hin => by
         have a := hf i hin
         have b : f i ≠ m := fun e => h ⟨i, hin, e⟩
         omega) hi
       omega
theorem barB_iff {w h f t : Int} : barB w h f t = true ↔ (0 ≤ f ∧ f ≤ w * h - 1) ∧ (0 ≤ t ∧ t ≤ w * h - 1) ∧ (t = f + w ∨ t = f + 1 ∧ t % w ≠ 0) := by
 simp only [barB, Bool.and_eq_true, Bool.or_eq_true, decide_eq_true_eq, within_iff, and_assoc]
theorem barEq_iff {b : Nat → Nat → Int} {x y : Int} {i : Nat} : barEq b x y i = true ↔ b i 0 = x ∧ b i 1 = y := by
 simp only [barEq, Bool.and_eq_true, decide_eq_true_eq]
theorem newB_iff {b : Nat → Nat → Int} {x y : Int} {n : Nat} : newB b x y n = true ↔ ∀ i, i < n → ¬ (b i 0 = x ∧ b i 1 = y) := by
 unfold newB
 rw [allB_iff]
 refine forall_congr' fun i => imp_congr_right fun _ => ?_
 rw [Bool.not_eq_true', ← barEq_iff, Bool.eq_false_iff]
structure TkOk (t : Torn) : Prop where
 t0 : tk0 t = true
 wl : 2 ≤ t.w
 wu : t.w ≤ 6
 hl : 2 ≤ t.h
 hu : t.h ≤ 6
 bar : ∀ i, i < t.n → barB t.w t.h (t.b i 0) (t.b i 1) = true
 dif : ∀ i, i < t.n → ∀ j, j < t.n → t.b i 0 = t.b j 0 → t.b i 1 = t.b j 1 → i = j
 few : t.n ≤ 72
theorem tchk_ok {t : Torn} (h : tchk t = true) : TkOk t := by
 unfold tchk tkI at h
 rw [Bool.and_eq_true, allB_iff] at h
 obtain ⟨h0, h1⟩ := h
 obtain ⟨⟨w1, w2⟩, ⟨v1, v2⟩, _⟩ := tk0_iff.1 h0
 have hb : ∀ i, i < t.n → barB t.w t.h (t.b i 0) (t.b i 1) = true := fun i hi => by
   have := h1 i hi; unfold tkO at this; rw [Bool.and_eq_true] at this; exact this.1
 have hd : ∀ i, i < t.n → ∀ j, j < i → ¬ (t.b j 0 = t.b i 0 ∧ t.b j 1 = t.b i 1) := fun i hi => by
   have := h1 i hi; unfold tkO at this; rw [Bool.and_eq_true, newB_iff] at this; exact this.2
 have dif : ∀ i, i < t.n → ∀ j, j < t.n → t.b i 0 = t.b j 0 → t.b i 1 = t.b j 1 → i = j := fun i hi j hj e0 e1 => by
   by_cases c : i < j
   · exact absurd ⟨e0, e1⟩ (hd j hj i c)
   · by_cases d : j < i
     · exact absurd ⟨e0.symm, e1.symm⟩ (hd i hi j d)
     · omega
 have P := Go.Proofs.YtcfmdhlohahhcaaDoor.wh_bd w1 w2 v1 v2
 refine ⟨h0, w1, w2, v1, v2, hb, dif, ?_⟩
 refine pigeon 72 t.n (fun i => (if t.b i 1 = t.b i 0 + t.w then 2 * t.b i 0 else 2 * t.b i 0 + 1).toNat) (fun i hi => ?_) fun i hi j hj e => ?_
 · obtain ⟨⟨a1, a2⟩, _⟩ := barB_iff.1 (hb i hi)
   show (if t.b i 1 = t.b i 0 + t.w then 2 * t.b i 0 else 2 * t.b i 0 + 1).toNat < 72
   split <;> omega
 · have e : (if t.b i 1 = t.b i 0 + t.w then 2 * t.b i 0 else 2 * t.b i 0 + 1).toNat = (if t.b j 1 = t.b j 0 + t.w then 2 * t.b j 0 else 2 * t.b j 0 + 1).toNat := e
   obtain ⟨⟨a1, a2⟩, _, a3⟩ := barB_iff.1 (hb i hi)
   obtain ⟨⟨b1, b2⟩, _, b3⟩ := barB_iff.1 (hb j hj)
   by_cases c : t.b i 1 = t.b i 0 + t.w <;> by_cases d : t.b j 1 = t.b j 0 + t.w
   · rw [if_pos c, if_pos d] at e; exact dif i hi j hj (by omega) (by omega)
   · rw [if_pos c, if_neg d] at e; omega
   · rw [if_neg c, if_pos d] at e; omega
   · rw [if_neg c, if_neg d] at e; exact dif i hi j hj (by omega) (by omega)
structure Pcs where
 np : Nat
 len : Nat → Nat
 kn : Nat → Nat → Int
def Pcs.wf (p : Pcs) : Prop := p.np ≤ 1073741824 ∧ ∀ i, i < p.np → p.len i ≤ 1073741824 ∧ ∀ k, k < p.len i → iR (p.kn i k)
def pcsCV (p : Pcs) : CV := .vs 1 p.np fun i _ => .vs 1 (p.len i) fun k _ => .int .i64 (p.kn i k)
def pcsTV (p : Pcs) : TV := .c (pcsCV p)
def stL (p : Pcs) (i k : Nat) : Int := imin (p.kn i k) (p.kn i (k + 1))
def stH (p : Pcs) (i k : Nat) : Int := imax (p.kn i k) (p.kn i (k + 1))
def hasB (t : Torn) (x y : Int) : Bool := !newB t.b x y t.n
def cntK (t : Torn) (p : Pcs) (i j : Nat) : Nat → Nat
 | 0 => 0
 | k + 1 => cntK t p i j k + if barEq t.b (stL p i k) (stH p i k) j then 1 else 0
def cntI (t : Torn) (p : Pcs) (j : Nat) : Nat → Nat
 | 0 => 0
 | i + 1 => cntI t p j i + cntK t p i j (p.len i - 1)
def fndK (t : Torn) (p : Pcs) (i k : Nat) : Bool := allB k fun k => hasB t (stL p i k) (stH p i k)
def okI (t : Torn) (p : Pcs) (i : Nat) : Bool := allB i fun i => decide (2 ≤ p.len i) && fndK t p i (p.len i - 1)
def isM (t : Torn) (p : Pcs) : Bool := okI t p p.np && allB t.n fun j => decide (cntI t p j p.np = 1)
theorem okI_succ {t : Torn} {p : Pcs} {i : Nat} : okI t p (i + 1) = (okI t p i && (decide (2 ≤ p.len i) && fndK t p i (p.len i - 1))) := rfl
theorem fndK_succ {t : Torn} {p : Pcs} {i k : Nat} : fndK t p i (k + 1) = (fndK t p i k && hasB t (stL p i k) (stH p i k)) := rfl
theorem hasB_iff {t : Torn} {x y : Int} : hasB t x y = true ↔ ∃ j, j < t.n ∧ t.b j 0 = x ∧ t.b j 1 = y := by
 unfold hasB
 rw [Bool.not_eq_true', Bool.eq_false_iff, ne_eq, newB_iff]
 constructor
 · intro h
   apply Classical.byContradiction
   intro g
   exact h fun i hi e => g ⟨i, hi, e⟩
 · intro ⟨j, hj, e⟩ h
   exact h j hj e
theorem allB_false {n : Nat} {p : Nat → Bool} (i : Nat) (hi : i < n) (h : p i = false) : allB n p = false := by
 cases e : allB n p with
 | false => rfl
 | true => rw [allB_iff.1 e i hi] at h; cases h
theorem no_len {t : Torn} {p : Pcs} {i : Nat} (hi : i < p.np) (h : p.len i < 2) : isM t p = false := by
 unfold isM okI
 rw [allB_false i hi (by rw [decide_eq_false (by omega)]; rfl)]; rfl
theorem no_has {t : Torn} {p : Pcs} {i k : Nat} (hi : i < p.np) (hk : k < p.len i - 1) (h : hasB t (stL p i k) (stH p i k) = false) : isM t p = false := by
 unfold isM okI
 rw [allB_false i hi (by unfold fndK; rw [allB_false k hk h, Bool.and_false])]; rfl
theorem cntK_mono {t : Torn} {p : Pcs} {i j : Nat} : ∀ {k l : Nat}, k ≤ l → cntK t p i j k ≤ cntK t p i j l := by
 intro k l h
 induction l with
 | zero => rw [show k = 0 by omega]; exact Nat.le_refl _
 | succ l ih =>
   by_cases c : k = l + 1
   · rw [c]; exact Nat.le_refl _
   · have := ih (by omega)
     rw [cntK]; omega
theorem cntI_mono {t : Torn} {p : Pcs} {j : Nat} : ∀ {k l : Nat}, k ≤ l → cntI t p j k ≤ cntI t p j l := by
 intro k l h
 induction l with
 | zero => rw [show k = 0 by omega]; exact Nat.le_refl _
 | succ l ih =>
   by_cases c : k = l + 1
   · rw [c]; exact Nat.le_refl _
   · have := ih (by omega)
     rw [cntI]; omega
theorem no_two {t : Torn} {p : Pcs} {i k j : Nat} (hi : i < p.np) (hk : k < p.len i - 1) (hj : j < t.n) (hb : barEq t.b (stL p i k) (stH p i k) j = true) (h : 1 ≤ cntI t p j i + cntK t p i j k) : isM t p = false := by
 unfold isM
 rw [allB_false j hj, Bool.and_false]
 have a := cntK_mono (t := t) (p := p) (i := i) (j := j) (show k + 1 ≤ p.len i - 1 by omega)
 have b := cntI_mono (t := t) (p := p) (j := j) (show i + 1 ≤ p.np by omega)
 have c : cntK t p i j (k + 1) = cntK t p i j k + 1 := by rw [cntK, if_pos hb]
 have d : cntI t p j (i + 1) = cntI t p j i + cntK t p i j (p.len i - 1) := rfl
 exact decide_eq_false (by omega)
theorem cntK_le {t : Torn} {p : Pcs} {i j : Nat} : ∀ {k : Nat}, cntK t p i j k ≤ k
 | 0 => Nat.le_refl _
 | k + 1 => by
   have := cntK_le (t := t) (p := p) (i := i) (j := j) (k := k)
   rw [cntK]; split <;> omega
theorem cntI_le {t : Torn} {p : Pcs} {j : Nat} (h : p.wf) : ∀ {i : Nat}, i ≤ p.np → cntI t p j i ≤ i * 1073741824
 | 0, _ => Nat.le_refl _
 | i + 1, hi => by
   have a := cntI_le (t := t) (j := j) h (i := i) (by omega)
   have b := cntK_le (t := t) (p := p) (i := i) (j := j) (k := p.len i - 1)
   have c := (h.2 i (by omega)).1
   rw [cntI]; omega
def sumT (f : Nat → Nat) : Nat → Nat
 | 0 => 0
 | n + 1 => sumT f n + f n
theorem sumT_add {f g : Nat → Nat} : ∀ n, sumT (fun j => f j + g j) n = sumT f n + sumT g n
 | 0 => rfl
 | n + 1 => by rw [sumT, sumT, sumT, sumT_add n]; omega
theorem sumT_ge {f : Nat → Nat} {n j : Nat} (hj : j < n) : f j ≤ sumT f n := by
 induction n with
 | zero => omega
 | succ n ih =>
   rw [sumT]
   by_cases c : j = n
   · subst c; omega
   · have := ih (by omega); omega
theorem sumT_congr {f g : Nat → Nat} {n : Nat} (h : ∀ j, j < n → f j = g j) : sumT f n = sumT g n := by
 induction n with
 | zero => rfl
 | succ n ih => rw [sumT, sumT, ih fun j hj => h j (by omega), h n (by omega)]
theorem sumT_one {n : Nat} : sumT (fun _ => 1) n = n := by
 induction n with
 | zero => rfl
 | succ n ih => rw [sumT, ih]
theorem few_np {t : Torn} {p : Pcs} {i : Nat} (h : okI t p i = true) : i ≤ sumT (fun j => cntI t p j i) t.n := by
 induction i with
 | zero => omega
 | succ i ih =>
   rw [okI_succ, Bool.and_eq_true, Bool.and_eq_true, decide_eq_true_eq] at h
   obtain ⟨h1, h2, h3⟩ := h
   have e : (fun j => cntI t p j (i + 1)) = fun j => cntI t p j i + cntK t p i j (p.len i - 1) := rfl
   rw [e, sumT_add]
   have a := ih h1
   have : 1 ≤ sumT (fun j => cntK t p i j (p.len i - 1)) t.n := by
     unfold fndK at h3
     obtain ⟨j, hj, e0, e1⟩ := hasB_iff.1 (allB_iff.1 h3 0 (by omega))
     have b := sumT_ge (f := fun j => cntK t p i j (p.len i - 1)) hj
     have c := cntK_mono (t := t) (p := p) (i := i) (j := j) (show 1 ≤ p.len i - 1 by omega)
     have d : cntK t p i j 1 = 1 := by rw [cntK, cntK, if_pos (barEq_iff.2 ⟨e0, e1⟩)]
     have b : cntK t p i j (p.len i - 1) ≤ sumT (fun j => cntK t p i j (p.len i - 1)) t.n := b
     omega
   omega
theorem np_few {t : Torn} {p : Pcs} (h : isM t p = true) : p.np ≤ t.n := by
 unfold isM at h
 rw [Bool.and_eq_true, allB_iff] at h
 have a := few_np h.1
 rw [sumT_congr (g := fun _ => 1) fun j hj => by have := h.2 j hj; rw [decide_eq_true_eq] at this; exact this, sumT_one] at a
 exact a
def numM (b : Nat → Nat → Int) : Nat → List Int → Option Int
 | 0, _ => none
 | g + 1, ks => if ks = [b g 0, b g (0 + 1)] then some (g : Int) else numM b g ks
theorem numM_some {b : Nat → Nat → Int} {x y v : Int} : ∀ {g : Nat}, numM b g [x, y] = some v → ∃ j : Nat, j < g ∧ v = j ∧ b j 0 = x ∧ b j 1 = y
 | 0, h => by cases h
 | g + 1, h => by
   unfold numM at h
   split at h
   · rename_i e
     injection h with h
     simp only [List.cons.injEq, and_true] at e
     exact ⟨g, by omega, h.symm, e.1.symm, e.2.symm⟩
   · obtain ⟨j, hj, r⟩ := numM_some h
     exact ⟨j, by omega, r⟩
theorem numM_none {b : Nat → Nat → Int} {x y : Int} : ∀ {g : Nat}, numM b g [x, y] = none → newB b x y g = true
 | 0, _ => rfl
 | g + 1, h => by
   unfold numM at h
   split at h
   · cases h
   · rename_i e
     have := newB_iff.1 (numM_none h)
     refine newB_iff.2 fun i hi c => ?_
     by_cases d : i = g
     · subst d; exact e (by rw [← c.1, ← c.2])
     · exact this i (by omega) c
end Nm
namespace Nm
open Go Go.Sx
structure Th where
 q : Option Nat
 f : Int
 t : Int
structure SpS where
 lf : Nat → Bool
 jn : Int → Option Int
def xorN : Nat → (Nat → Bool) → Bool
 | 0, _ => false
 | n + 1, p => xorN n p ^^ p n
def inc (b : Nat → Nat → Int) (i : Nat) (v : Int) : Bool := decide (b i 0 = v) || decide (b i 1 = v)
def par (n : Nat) (b : Nat → Nat → Int) (s : SpS) (v : Int) : Bool := xorN n (fun i => s.lf i && inc b i v) ^^ (s.jn v).isSome
def Walk : Int → List Th → Int → Prop
 | e, [], k => e = k
 | e, x :: l, k => x.f = e ∧ Walk x.t l k
def usedB (l : List Th) (i : Nat) : Bool := l.any fun x => x.q == some i
def usedJ (l : List Th) (v : Int) : Bool := l.any fun x => x.q.isNone && (decide (x.f = v) || decide (x.t = v))
def seen (l : List Th) (v : Int) : Prop := ∃ x ∈ l, x.f = v ∨ x.t = v
def ThNe (x y : Th) : Prop := (∀ i j, x.q = some i → y.q = some j → i ≠ j) ∧ (x.q = none → y.q = none → x.f ≠ y.f ∧ x.f ≠ y.t ∧ x.t ≠ y.f ∧ x.t ≠ y.t)
theorem ThNe.symm {x y : Th} (h : ThNe x y) : ThNe y x := ⟨fun i j a c e => h.1 j i c a e.symm, fun a c => let ⟨h1, h2, h3, h4⟩ := h.2 c a; ⟨fun e => h1 e.symm, fun e => h3 e.symm, fun e => h2 e.symm, fun e => h4 e.symm⟩⟩
def ThOk (n : Nat) (b : Nat → Nat → Int) (s : SpS) (x : Th) : Prop := match x.q with
 | some i => i < n ∧ s.lf i = true ∧ ((x.f = b i 0 ∧ x.t = b i 1) ∨ (x.f = b i 1 ∧ x.t = b i 0))
 | none => s.jn x.f = some x.t ∧ s.jn x.t = some x.f
structure Acc (n : Nat) (b : Nat → Nat → Int) (s : SpS) (l : List Th) (s' : SpS) : Prop where
 lf : ∀ i, s'.lf i = (s.lf i && !usedB l i)
 jn : ∀ v, s'.jn v = if usedJ l v = true then none else s.jn v
 ok : ∀ x ∈ l, ThOk n b s x
 nod : l.Pairwise ThNe
theorem usedB_iff {l : List Th} {i : Nat} : usedB l i = true ↔ ∃ x ∈ l, x.q = some i := by
 simp only [usedB, List.any_eq_true, beq_iff_eq]
theorem usedJ_iff {l : List Th} {v : Int} : usedJ l v = true ↔ ∃ x ∈ l, x.q = none ∧ (x.f = v ∨ x.t = v) := by
 simp only [usedJ, List.any_eq_true, Bool.and_eq_true, Bool.or_eq_true, decide_eq_true_eq, Option.isNone_iff_eq_none]
theorem usedB_append {l m : List Th} {i : Nat} : usedB (l ++ m) i = (usedB l i || usedB m i) := by simp only [usedB, List.any_append]
theorem usedJ_append {l m : List Th} {v : Int} : usedJ (l ++ m) v = (usedJ l v || usedJ m v) := by simp only [usedJ, List.any_append]
theorem Walk.append : ∀ {l m : List Th} {e k h : Int}, Walk e l k → Walk k m h → Walk e (l ++ m) h
 | [], m, e, k, h, h1, h2 => by have h1 : e = k := h1; subst h1; exact h2
 | x :: l, m, e, k, h, h1, h2 => ⟨h1.1, h1.2.append h2⟩
theorem Walk.append_iff : ∀ {l m : List Th} {e h : Int}, Walk e (l ++ m) h ↔ ∃ k, Walk e l k ∧ Walk k m h
 | [], m, e, h => ⟨fun w => ⟨e, rfl, w⟩, fun ⟨k, h1, h2⟩ => by have h1 : e = k := h1; subst h1; exact h2⟩
 | x :: l, m, e, h => by
   show (x.f = e ∧ Walk x.t (l ++ m) h) ↔ ∃ k, (x.f = e ∧ Walk x.t l k) ∧ Walk k m h
   rw [Walk.append_iff]
   exact ⟨fun ⟨a, k, c, d⟩ => ⟨k, ⟨a, c⟩, d⟩, fun ⟨k, ⟨a, c⟩, d⟩ => ⟨a, k, c, d⟩⟩
theorem ThOk.of {n : Nat} {b : Nat → Nat → Int} {s s' : SpS} {x : Th} (h : ThOk n b s' x) (h1 : ∀ i, s'.lf i = true → s.lf i = true) (h2 : ∀ v w, s'.jn v = some w → s.jn v = some w) : ThOk n b s x := by
 unfold ThOk at h ⊢
 split
 · rename_i i e
   rw [e] at h
   exact ⟨h.1, h1 i h.2.1, h.2.2⟩
 · rename_i e
   rw [e] at h
   exact ⟨h2 _ _ h.1, h2 _ _ h.2⟩
theorem Acc.sub_lf {n : Nat} {b : Nat → Nat → Int} {s s' : SpS} {l : List Th} (h : Acc n b s l s') {i : Nat} (e : s'.lf i = true) : s.lf i = true ∧ usedB l i = false := by
 rw [h.lf, Bool.and_eq_true, Bool.not_eq_true'] at e; exact e
theorem Acc.sub_jn {n : Nat} {b : Nat → Nat → Int} {s s' : SpS} {l : List Th} (h : Acc n b s l s') {v w : Int} (e : s'.jn v = some w) : s.jn v = some w ∧ usedJ l v = false := by
 rw [h.jn] at e
 split at e
 · cases e
 · rename_i c; exact ⟨e, by simpa using c⟩
theorem Acc.nil {n : Nat} {b : Nat → Nat → Int} {s : SpS} : Acc n b s [] s :=
 ⟨fun i => by simp [usedB], fun v => by simp [usedJ], fun x h => (by cases h), List.Pairwise.nil⟩
theorem Acc.append {n : Nat} {b : Nat → Nat → Int} {s s1 s2 : SpS} {l m : List Th} (h : Acc n b s l s1) (h' : Acc n b s1 m s2) : Acc n b s (l ++ m) s2 := by
 refine ⟨fun i => ?_, fun v => ?_, fun x hx => ?_, ?_⟩
 · rw [h'.lf, h.lf, usedB_append]; cases s.lf i <;> cases usedB l i <;> rfl
 · rw [h'.jn, h.jn, usedJ_append]
   cases usedJ l v <;> cases usedJ m v <;> rfl
 · rcases List.mem_append.1 hx with hx | hx
   · exact h.ok x hx
   · exact (h'.ok x hx).of (fun i e => (h.sub_lf e).1) fun v w e => (h.sub_jn e).1
 · rw [List.pairwise_append]
   refine ⟨h.nod, h'.nod, fun x hx y hy => ?_⟩
   have oy := h'.ok y hy
   unfold ThOk at oy
   refine ⟨fun i j ei ej e => ?_, fun ei ej => ?_⟩
   · subst e
     rw [ej] at oy
     have := (h.sub_lf oy.2.1).2
     rw [usedB_iff.2 ⟨x, hx, ei⟩] at this; cases this
   · rw [ej] at oy
     have a := (h.sub_jn oy.1).2
     have c := (h.sub_jn oy.2).2
     have no : ∀ v, usedJ l v = false → x.f ≠ v ∧ x.t ≠ v := fun v hv => ⟨fun e => (by rw [usedJ_iff.2 ⟨x, hx, ei, .inl e⟩] at hv; cases hv), fun e => (by rw [usedJ_iff.2 ⟨x, hx, ei, .inr e⟩] at hv; cases hv)⟩
     exact ⟨(no _ a).1, (no _ c).1, (no _ a).2, (no _ c).2⟩
theorem Acc.perm {n : Nat} {b : Nat → Nat → Int} {s s' : SpS} {l m : List Th} (h : Acc n b s l s') (p : l.Perm m) : Acc n b s m s' := by
 refine ⟨fun i => ?_, fun v => ?_, fun x hx => h.ok x (p.mem_iff.2 hx), p.pairwise h.nod fun h => h.symm⟩
 · rw [h.lf]
   congr 2
   rw [Bool.eq_iff_iff, usedB_iff, usedB_iff]
   exact ⟨fun ⟨x, hx, e⟩ => ⟨x, p.mem_iff.1 hx, e⟩, fun ⟨x, hx, e⟩ => ⟨x, p.mem_iff.2 hx, e⟩⟩
 · rw [h.jn]
   congr 2
   rw [Bool.eq_iff_iff, usedJ_iff, usedJ_iff]
   exact ⟨fun ⟨x, hx, e⟩ => ⟨x, p.mem_iff.1 hx, e⟩, fun ⟨x, hx, e⟩ => ⟨x, p.mem_iff.2 hx, e⟩⟩
def offB (s : SpS) (i : Nat) : SpS := ⟨fun j => s.lf j && !decide (j = i), s.jn⟩
def offJ (s : SpS) (x y : Int) : SpS := ⟨s.lf, fun v => if v = x ∨ v = y then none else s.jn v⟩
theorem Acc.bar {n : Nat} {b : Nat → Nat → Int} {s : SpS} {i : Nat} (hi : i < n) (h : s.lf i = true) {f t : Int} (he : (f = b i 0 ∧ t = b i 1) ∨ (f = b i 1 ∧ t = b i 0)) : Acc n b s [⟨some i, f, t⟩] (offB s i) := by
 refine ⟨fun j => ?_, fun v => by simp [usedJ, offB], fun x hx => ?_, List.pairwise_singleton _ _⟩
 · show (s.lf j && !decide (j = i)) = (s.lf j && !usedB _ j)
   congr 2
   rw [Bool.eq_iff_iff, usedB_iff, decide_eq_true_eq]
   exact ⟨fun e => ⟨_, List.mem_singleton.2 rfl, by rw [e]⟩, fun ⟨x, hx, e⟩ => by rw [List.mem_singleton.1 hx] at e; injection e with e; exact e.symm⟩
 · rw [List.mem_singleton.1 hx]; exact ⟨hi, h, he⟩
theorem Acc.join {n : Nat} {b : Nat → Nat → Int} {s : SpS} {f t : Int} (h1 : s.jn f = some t) (h2 : s.jn t = some f) : Acc n b s [⟨none, f, t⟩] (offJ s f t) := by
 refine ⟨fun j => by simp [usedB, offJ], fun v => ?_, fun x hx => ?_, List.pairwise_singleton _ _⟩
 · show (if v = f ∨ v = t then none else s.jn v) = _
   have : usedJ [⟨none, f, t⟩] v = decide (v = f ∨ v = t) := by
     rw [Bool.eq_iff_iff, usedJ_iff, decide_eq_true_eq]
     exact ⟨fun ⟨x, hx, _, e⟩ => by rw [List.mem_singleton.1 hx] at e; exact e.imp Eq.symm Eq.symm, fun e => ⟨_, List.mem_singleton.2 rfl, rfl, e.imp Eq.symm Eq.symm⟩⟩
   rw [this]
   by_cases c : v = f ∨ v = t
   · rw [if_pos c, if_pos (decide_eq_true c)]
   · rw [if_neg c, if_neg (by rw [decide_eq_false c]; decide)]
 · rw [List.mem_singleton.1 hx]; exact ⟨h1, h2⟩
theorem xorN_congr {n : Nat} {p q : Nat → Bool} (h : ∀ i, i < n → p i = q i) : xorN n p = xorN n q := by
 induction n with
 | zero => rfl
 | succ n ih => rw [xorN, xorN, ih fun i hi => h i (by omega), h n (by omega)]
theorem xorN_false {n : Nat} {p : Nat → Bool} (h : ∀ i, i < n → p i = false) : xorN n p = false := by
 induction n with
 | zero => rfl
 | succ n ih => rw [xorN, ih fun i hi => h i (by omega), h n (by omega)]; rfl
theorem xorN_one {n : Nat} {p q : Nat → Bool} {i : Nat} (hi : i < n) (h : ∀ j, j < n → j ≠ i → p j = q j) : xorN n p = (xorN n q ^^ (p i ^^ q i)) := by
 induction n with
 | zero => omega
 | succ n ih =>
   rw [xorN, xorN]
   by_cases c : i = n
   · subst c
     rw [xorN_congr (p := p) (q := q) fun j hj => h j (by omega) (by omega)]
     cases xorN i q <;> cases p i <;> cases q i <;> rfl
   · rw [ih (by omega) fun j hj => h j (by omega), h n (by omega) fun e => c e.symm]
     cases xorN n q <;> cases p i <;> cases q i <;> cases q n <;> rfl
def cntN : Nat → (Nat → Bool) → Nat
 | 0, _ => 0
 | n + 1, p => cntN n p + (if p n then 1 else 0)
theorem cntN_le {p q : Nat → Bool} : ∀ {n : Nat}, (∀ i, i < n → p i = true → q i = true) → cntN n p ≤ cntN n q
 | 0, _ => Nat.le_refl _
 | n + 1, h => by
   have := cntN_le (n := n) fun i hi => h i (by omega)
   rw [cntN, cntN]
   cases e : p n with
   | false => simp only [Bool.false_eq_true, if_false]; omega
   | true => rw [h n (by omega) e]; omega
theorem cntN_lt {p q : Nat → Bool} {i : Nat} : ∀ {n : Nat}, i < n → (∀ i, i < n → p i = true → q i = true) → p i = false → q i = true → cntN n p < cntN n q
 | 0, hi, _, _, _ => by omega
 | n + 1, hi, h, h1, h2 => by
   rw [cntN, cntN]
   by_cases c : i = n
   · subst c
     have := cntN_le (n := i) fun j hj => h j (by omega)
     rw [h1, h2]; simp only [Bool.false_eq_true, if_false, if_true]; omega
   · have := cntN_lt (n := n) (by omega) (fun j hj => h j (by omega)) h1 h2
     cases e : p n with
     | false => simp only [Bool.false_eq_true, if_false]; omega
     | true => rw [h n (by omega) e]; omega
theorem cntN_max {p : Nat → Bool} : ∀ {n : Nat}, cntN n p ≤ n
 | 0 => Nat.le_refl _
 | n + 1 => by have := cntN_max (p := p) (n := n); rw [cntN]; split <;> omega
def muS (n : Nat) (s : SpS) : Nat := cntN n s.lf + cntN 36 (fun v => (s.jn (v : Int)).isSome)
theorem muS_offB {n : Nat} {s : SpS} {i : Nat} (hi : i < n) (h : s.lf i = true) : muS n (offB s i) < muS n s := by
 have := cntN_lt (p := (offB s i).lf) (q := s.lf) hi (fun j _ e => by
   have e : (s.lf j && !decide (j = i)) = true := e
   rw [Bool.and_eq_true] at e; exact e.1) (by show (s.lf i && !decide (i = i)) = false; simp) h
 unfold muS
 have e : (fun v : Nat => ((offB s i).jn (v : Int)).isSome) = fun v : Nat => (s.jn (v : Int)).isSome := rfl
 rw [e]; omega
theorem muS_offJ {n : Nat} {s : SpS} {x y : Int} (h : s.jn x = some y) (h0 : 0 ≤ x) (h1 : x < 36) : muS n (offJ s x y) < muS n s := by
 have := cntN_lt (n := 36) (i := x.toNat) (p := fun v => ((offJ s x y).jn (v : Int)).isSome) (q := fun v => (s.jn (v : Int)).isSome) (by omega) (fun j _ e => by
   have e : (if (j : Int) = x ∨ (j : Int) = y then none else s.jn (j : Int)).isSome = true := e
   show (s.jn (j : Int)).isSome = true
   split at e
   · cases e
   · exact e) (by show (if ((x.toNat : Nat) : Int) = x ∨ ((x.toNat : Nat) : Int) = y then none else s.jn _).isSome = false; rw [if_pos (.inl (by omega))]; rfl) (by show (s.jn ((x.toNat : Nat) : Int)).isSome = true; rw [show ((x.toNat : Nat) : Int) = x by omega, h]; rfl)
 unfold muS
 have e : (offJ s x y).lf = s.lf := rfl
 rw [e]; omega
structure GrOk (n : Nat) (b : Nat → Nat → Int) (C : Int → Prop) : Prop where
 ne : ∀ i, i < n → b i 0 ≠ b i 1
 cl : ∀ i, i < n → (C (b i 0) ↔ C (b i 1))
 kn : ∀ i, i < n → (0 ≤ b i 0 ∧ b i 0 < 36) ∧ 0 ≤ b i 1 ∧ b i 1 < 36
structure JnOk (C : Int → Prop) (s : SpS) : Prop where
 sy : ∀ v w, s.jn v = some w → s.jn w = some v ∧ v ≠ w ∧ C v
 kn : ∀ v w, s.jn v = some w → 0 ≤ v ∧ v < 36
structure SpPre (n : Nat) (b : Nat → Nat → Int) (C : Int → Prop) (s : SpS) (k e : Int) : Prop where
 jo : JnOk C s
 ck : C k
 pr : ∀ v, C v → par n b s v = (decide (v = k) ^^ decide (v = e))
def Clo (n : Nat) (b : Nat → Nat → Int) (s : SpS) (v : Int) : Prop := (∀ i, i < n → inc b i v = true → s.lf i = false) ∧ s.jn v = none
structure SpPost (n : Nat) (b : Nat → Nat → Int) (C : Int → Prop) (s : SpS) (k e : Int) (s' : SpS) (l : List Th) : Prop where
 walk : Walk e l k
 acc : Acc n b s l s'
 clo : ∀ v, v = k ∨ seen l v → Clo n b s' v
 pr : ∀ v, C v → par n b s' v = false
 len : l.length + muS n s' ≤ muS n s
structure SpMid (n : Nat) (b : Nat → Nat → Int) (C : Int → Prop) (s : SpS) (k e : Int) (i : Nat) (s' : SpS) (l : List Th) (c : Int) : Prop where
 walk : Walk e l c
 acc : Acc n b s l s'
 clo : ∀ v, v ≠ k → seen l v → Clo n b s' v
 at_ : ∀ j, j < i → inc b j k = true → s'.lf j = false
 pr : ∀ v, C v → par n b s' v = (decide (v = k) ^^ decide (v = c))
 len : l.length + muS n s' ≤ muS n s
theorem JnOk.of {n : Nat} {b : Nat → Nat → Int} {C : Int → Prop} {s s' : SpS} {l : List Th} (h : JnOk C s) (a : Acc n b s l s') : JnOk C s' := by
 refine ⟨fun v w e => ?_, fun v w e => h.kn v w (a.sub_jn e).1⟩
 obtain ⟨e1, e2⟩ := a.sub_jn e
 obtain ⟨h1, h2, h3⟩ := h.sy v w e1
 refine ⟨?_, h2, h3⟩
 rw [a.jn]
 rw [if_neg, h1]
 intro u
 obtain ⟨x, hx, q, o⟩ := usedJ_iff.1 u
 have ok := a.ok x hx
 unfold ThOk at ok
 rw [q] at ok
 have : usedJ l v = true := usedJ_iff.2 ⟨x, hx, q, by
   rcases o with o | o
   · rw [o, h1] at ok; have := ok.1; injection this with this; exact .inr this.symm
   · rw [o, h1] at ok; have := ok.2; injection this with this; exact .inl this.symm⟩
 rw [this] at e2; cases e2
theorem inc_iff {b : Nat → Nat → Int} {i : Nat} {v : Int} : inc b i v = true ↔ b i 0 = v ∨ b i 1 = v := by
 simp only [inc, Bool.or_eq_true, decide_eq_true_eq]
theorem inc_ends {b : Nat → Nat → Int} {i : Nat} (hne : b i 0 ≠ b i 1) {k t : Int} (he : (k = b i 0 ∧ t = b i 1) ∨ (k = b i 1 ∧ t = b i 0)) (v : Int) : inc b i v = (decide (v = k) ^^ decide (v = t)) := by
 unfold inc
 rcases he with ⟨rfl, rfl⟩ | ⟨rfl, rfl⟩
 · by_cases h1 : v = b i 0
   · subst h1
     simp [hne, Ne.symm hne]
   · by_cases h2 : v = b i 1
     · subst h2; simp [hne, Ne.symm hne]
     · simp [h1, h2, Ne.symm h1, Ne.symm h2, eq_comm]
 · by_cases h1 : v = b i 0
   · subst h1
     simp [hne, Ne.symm hne]
   · by_cases h2 : v = b i 1
     · subst h2; simp [hne, Ne.symm hne]
     · simp [h1, h2, Ne.symm h1, Ne.symm h2, eq_comm]
theorem par_offB {n : Nat} {b : Nat → Nat → Int} {s : SpS} {i : Nat} (hi : i < n) (h : s.lf i = true) (v : Int) : par n b (offB s i) v = (par n b s v ^^ inc b i v) := by
 unfold par
 rw [xorN_one (p := fun j => (offB s i).lf j && inc b j v) (q := fun j => s.lf j && inc b j v) hi fun j hj ne => by
   show (s.lf j && !decide (j = i) && inc b j v) = _
   rw [decide_eq_false ne]; simp]
 have : ((offB s i).lf i && inc b i v) = false := by
   show (s.lf i && !decide (i = i) && inc b i v) = false
   simp
 rw [this, h]
 show (_ ^^ (false ^^ (true && inc b i v)) ^^ (s.jn v).isSome) = _
 cases xorN n (fun j => s.lf j && inc b j v) <;> cases inc b i v <;> cases (s.jn v).isSome <;> rfl
theorem par_offJ {n : Nat} {b : Nat → Nat → Int} {s : SpS} {x y : Int} (h1 : s.jn x = some y) (h2 : s.jn y = some x) (ne : x ≠ y) (v : Int) : par n b (offJ s x y) v = (par n b s v ^^ (decide (v = x) ^^ decide (v = y))) := by
 unfold par
 show (xorN n (fun i => s.lf i && inc b i v) ^^ (if v = x ∨ v = y then none else s.jn v).isSome) = _
 by_cases c : v = x
 · subst c
   rw [if_pos (.inl rfl), h1, decide_eq_true rfl, decide_eq_false ne]
   cases xorN n (fun i => s.lf i && inc b i v) <;> rfl
 · by_cases d : v = y
   · subst d
     rw [if_pos (.inr rfl), h2, decide_eq_true rfl, decide_eq_false c]
     cases xorN n (fun i => s.lf i && inc b i v) <;> rfl
   · rw [if_neg (fun h => h.elim c d), decide_eq_false c, decide_eq_false d]
     cases xorN n (fun i => s.lf i && inc b i v) <;> cases (s.jn v).isSome <;> rfl
theorem par_clo {n : Nat} {b : Nat → Nat → Int} {s : SpS} {v : Int} (h : Clo n b s v) : par n b s v = false := by
 unfold par
 rw [xorN_false, h.2]
 · rfl
 · intro i hi
   cases c : inc b i v with
   | false => rw [Bool.and_false]
   | true => rw [h.1 i hi c]; rfl
theorem Clo.of {n : Nat} {b : Nat → Nat → Int} {s s' : SpS} {l : List Th} {v : Int} (h : Clo n b s v) (a : Acc n b s l s') : Clo n b s' v := by
 refine ⟨fun i hi c => ?_, ?_⟩
 · rw [a.lf, h.1 i hi c]; rfl
 · rw [a.jn, h.2]; split <;> rfl
theorem seen_append {l m : List Th} {v : Int} : seen (l ++ m) v ↔ seen l v ∨ seen m v := by
 simp only [seen, List.mem_append]
 exact ⟨fun ⟨x, h, o⟩ => h.elim (fun h => .inl ⟨x, h, o⟩) fun h => .inr ⟨x, h, o⟩, fun h => h.elim (fun ⟨x, h, o⟩ => ⟨x, .inl h, o⟩) fun ⟨x, h, o⟩ => ⟨x, .inr h, o⟩⟩
theorem seen_one {x : Th} {v : Int} : seen [x] v ↔ x.f = v ∨ x.t = v := by simp [seen]
theorem SpMid.start {n : Nat} {b : Nat → Nat → Int} {C : Int → Prop} {s : SpS} {k e : Int} (h : SpPre n b C s k e) : SpMid n b C s k e 0 s [] e :=
 ⟨rfl, Acc.nil, fun v _ ⟨x, hx, _⟩ => (by cases hx), fun j hj => (by omega), h.pr, by show 0 + _ ≤ _; omega⟩
theorem SpMid.skip {n : Nat} {b : Nat → Nat → Int} {C : Int → Prop} {s s' : SpS} {k e c : Int} {i : Nat} {l : List Th} (h : SpMid n b C s k e i s' l c) (hs : s'.lf i = true → inc b i k = false) : SpMid n b C s k e (i + 1) s' l c :=
 ⟨h.walk, h.acc, h.clo, fun j hj hk => by
   by_cases d : j = i
   · subst d
     cases q : s'.lf j with
     | false => rfl
     | true => rw [hs q] at hk; cases hk
   · exact h.at_ j (by omega) hk, h.pr, h.len⟩
theorem SpMid.into {n : Nat} {b : Nat → Nat → Int} {C : Int → Prop} (G : GrOk n b C) {s s' : SpS} {k e c : Int} {i : Nat} {l : List Th} (P : SpPre n b C s k e) (h : SpMid n b C s k e i s' l c) (hi : i < n) (hl : s'.lf i = true) {t : Int} (he : (k = b i 0 ∧ t = b i 1) ∨ (k = b i 1 ∧ t = b i 0)) : SpPre n b C (offB s' i) t c := by
 have A := Acc.bar hi hl he
 refine ⟨(P.jo.of h.acc).of A, ?_, fun v hv => ?_⟩
 · rcases he with ⟨rfl, rfl⟩ | ⟨rfl, rfl⟩
   · exact (G.cl i hi).1 P.ck
   · exact (G.cl i hi).2 P.ck
 · rw [par_offB hi hl, h.pr v hv, inc_ends (G.ne i hi) he]
   cases decide (v = k) <;> cases decide (v = c) <;> cases decide (v = t) <;> rfl
theorem SpMid.back {n : Nat} {b : Nat → Nat → Int} {C : Int → Prop} (G : GrOk n b C) {s s' s2 : SpS} {k e c : Int} {i : Nat} {l m : List Th} (P : SpPre n b C s k e) (h : SpMid n b C s k e i s' l c) (hi : i < n) (hl : s'.lf i = true) {t : Int} (he : (k = b i 0 ∧ t = b i 1) ∨ (k = b i 1 ∧ t = b i 0)) (hp : SpPost n b C (offB s' i) t c s2 m) : SpMid n b C s k e (i + 1) s2 (l ++ (m ++ [⟨some i, t, k⟩])) k := by
 have he' : (t = b i 0 ∧ k = b i 1) ∨ (t = b i 1 ∧ k = b i 0) := he.symm.imp And.symm And.symm
 have A := Acc.bar (b := b) hi hl he'
 have A2 : Acc n b s' (m ++ [⟨some i, t, k⟩]) s2 := (A.append hp.acc).perm List.perm_append_comm
 have A3 := h.acc.append A2
 refine ⟨h.walk.append (hp.walk.append ⟨rfl, rfl⟩), A3, fun v hv hs => ?_, fun j hj hk => ?_, fun v hv => ?_, ?_⟩
 · rcases seen_append.1 hs with hs | hs
   · exact (h.clo v hv hs).of A2
   · rcases seen_append.1 hs with hs | hs
     · exact hp.clo v (.inr hs)
     · rcases seen_one.1 hs with e | e
       · exact hp.clo v (.inl e.symm)
       · exact absurd e.symm hv
 · by_cases d : j = i
   · subst d
     rw [A2.lf, usedB_iff.2 ⟨_, List.mem_append.2 (.inr (List.mem_singleton.2 rfl)), rfl⟩, Bool.not_true, Bool.and_false]
   · rw [A2.lf, h.at_ j (by omega) hk]; rfl
 · rw [hp.pr v hv]; cases decide (v = k) <;> rfl
 · have := muS_offB hi hl
   have := hp.len
   have := h.len
   simp only [List.length_append, List.length_singleton]; omega
theorem SpMid.fin {n : Nat} {b : Nat → Nat → Int} {C : Int → Prop} {s s' : SpS} {k e c : Int} {l : List Th} (P : SpPre n b C s k e) (h : SpMid n b C s k e n s' l c) (hj : s'.jn k = none) : SpPost n b C s k e s' l := by
 have hk : Clo n b s' k := ⟨fun i hi q => h.at_ i hi q, hj⟩
 have e0 := par_clo hk
 rw [h.pr k P.ck, decide_eq_true rfl] at e0
 have ec : k = c := by
   apply Classical.byContradiction
   intro ne
   rw [decide_eq_false ne] at e0; cases e0
 subst ec
 refine ⟨h.walk, h.acc, fun v hv => ?_, fun v hv => by rw [h.pr v hv]; cases decide (v = k) <;> rfl, h.len⟩
 by_cases d : v = k
 · subst d; exact hk
 · rcases hv with hv | hv
   · exact absurd hv d
   · exact h.clo v d hv
theorem SpMid.jinto {n : Nat} {b : Nat → Nat → Int} {C : Int → Prop} {s s' : SpS} {k e c : Int} {l : List Th} (P : SpPre n b C s k e) (h : SpMid n b C s k e n s' l c) {t : Int} (hj : s'.jn k = some t) : SpPre n b C (offJ s' k t) t c := by
 have J := P.jo.of h.acc
 obtain ⟨h1, h2, h3⟩ := J.sy k t hj
 refine ⟨J.of (Acc.join (n := n) (b := b) hj h1), (J.sy t k h1).2.2, fun v hv => ?_⟩
 rw [par_offJ hj h1 h2, h.pr v hv]
 cases decide (v = k) <;> cases decide (v = c) <;> cases decide (v = t) <;> rfl
theorem SpMid.jback {n : Nat} {b : Nat → Nat → Int} {C : Int → Prop} {s s' s2 : SpS} {k e c : Int} {l m : List Th} (P : SpPre n b C s k e) (h : SpMid n b C s k e n s' l c) {t : Int} (hj : s'.jn k = some t) (hp : SpPost n b C (offJ s' k t) t c s2 m) : SpPre n b C s2 k k := by
 have J := P.jo.of h.acc
 obtain ⟨h1, h2, h3⟩ := J.sy k t hj
 exact ⟨(J.of (Acc.join (n := n) (b := b) hj h1)).of hp.acc, P.ck, fun v hv => by rw [hp.pr v hv]; cases decide (v = k) <;> rfl⟩
theorem SpMid.jfin {n : Nat} {b : Nat → Nat → Int} {C : Int → Prop} {s s' s2 s3 : SpS} {k e c : Int} {l m r : List Th} (P : SpPre n b C s k e) (h : SpMid n b C s k e n s' l c) {t : Int} (hj : s'.jn k = some t) (hp : SpPost n b C (offJ s' k t) t c s2 m) (hq : SpPost n b C s2 k k s3 r) : SpPost n b C s k e s3 (l ++ (m ++ [⟨none, t, k⟩]) ++ r) := by
 have J := P.jo.of h.acc
 obtain ⟨h1, h2, h3⟩ := J.sy k t hj
 have A := Acc.join (n := n) (b := b) h1 hj
 have eo : offJ s' t k = offJ s' k t := by
   unfold offJ
   congr 1
   funext v
   by_cases c : v = t ∨ v = k
   · rw [if_pos c, if_pos c.symm]
   · rw [if_neg c, if_neg fun d => c d.symm]
 rw [eo] at A
 have A2 : Acc n b s' (m ++ [⟨none, t, k⟩]) s2 := (A.append hp.acc).perm List.perm_append_comm
 have A3 := (h.acc.append A2).append hq.acc
 refine ⟨(h.walk.append (hp.walk.append (show Walk t [⟨none, t, k⟩] k from ⟨rfl, rfl⟩))).append hq.walk, A3, fun v hv => ?_, hq.pr, by
   have := muS_offJ (n := n) hj (J.kn k t hj).1 (J.kn k t hj).2
   have := hp.len
   have := h.len
   have := hq.len
   simp only [List.length_append, List.length_singleton]; omega⟩
 by_cases d : v = k
 · exact hq.clo v (.inl d)
 · rcases hv with hv | hv
   · exact absurd hv d
   · rcases seen_append.1 hv with hv | hv
     · refine Clo.of ?_ hq.acc
       rcases seen_append.1 hv with hv | hv
       · exact (h.clo v d hv).of A2
       · rcases seen_append.1 hv with hv | hv
         · exact hp.clo v (.inr hv)
         · rcases seen_one.1 hv with e | e
           · exact hp.clo v (.inl e.symm)
           · exact absurd e.symm d
     · exact hq.clo v (.inr hv)
end Nm
namespace Nm
open Go Go.Sx
def stp (b : Nat → Nat → Int) (x y : Int) (j : Nat) : Nat := if barEq b (imin x y) (imax x y) j then 1 else 0
def cntP (b : Nat → Nat → Int) (j : Nat) : List Int → Nat
 | x :: y :: l => stp b x y j + cntP b j (y :: l)
 | _ => 0
def cntL (b : Nat → Nat → Int) (j : Nat) : List (List Int) → Nat
 | [] => 0
 | p :: l => cntP b j p + cntL b j l
def hasP (n : Nat) (b : Nat → Nat → Int) : List Int → Prop
 | x :: y :: l => (∃ j, j < n ∧ barEq b (imin x y) (imax x y) j = true) ∧ hasP n b (y :: l)
 | _ => True
def PcOk (n : Nat) (b : Nat → Nat → Int) (p : List Int) : Prop := 2 ≤ p.length ∧ hasP n b p
theorem cntL_append {b : Nat → Nat → Int} {j : Nat} {m : List (List Int)} : ∀ {l : List (List Int)}, cntL b j (l ++ m) = cntL b j l + cntL b j m
 | [] => by show cntL b j m = 0 + cntL b j m; omega
 | p :: l => by show cntP b j p + cntL b j (l ++ m) = cntP b j p + cntL b j l + cntL b j m; rw [cntL_append]; omega
theorem cntP_snoc {b : Nat → Nat → Int} {j : Nat} {x y : Int} : ∀ {l : List Int}, cntP b j (l ++ [x] ++ [y]) = cntP b j (l ++ [x]) + stp b x y j
 | [] => by show stp b x y j + cntP b j [y] = cntP b j [x] + _; show _ + 0 = 0 + _; omega
 | [z] => by show stp b z x j + (stp b x y j + 0) = stp b z x j + 0 + stp b x y j; omega
 | z :: z' :: l => by
   have := cntP_snoc (b := b) (j := j) (x := x) (y := y) (l := z' :: l)
   show stp b z z' j + cntP b j (z' :: l ++ [x] ++ [y]) = stp b z z' j + cntP b j (z' :: l ++ [x]) + _
   rw [this]; omega
theorem hasP_snoc {n : Nat} {b : Nat → Nat → Int} {x y : Int} : ∀ {l : List Int}, hasP n b (l ++ [x] ++ [y]) ↔ hasP n b (l ++ [x]) ∧ ∃ j, j < n ∧ barEq b (imin x y) (imax x y) j = true
 | [] => by show ((∃ j, _) ∧ True) ↔ True ∧ _; simp
 | [z] => by show ((∃ j, _) ∧ (∃ j, _) ∧ True) ↔ ((∃ j, _) ∧ True) ∧ _; simp
 | z :: z' :: l => by
   have := hasP_snoc (n := n) (b := b) (x := x) (y := y) (l := z' :: l)
   show ((∃ j, _) ∧ hasP n b (z' :: l ++ [x] ++ [y])) ↔ ((∃ j, _) ∧ hasP n b (z' :: l ++ [x])) ∧ _
   rw [this, and_assoc]
structure CtS where
 o : List (List Int)
 p : List Int
def ctDone (s : CtS) : List (List Int) := if 1 < s.p.length then s.o ++ [s.p] else s.o
def ctStep (s : CtS) (x : Th) : CtS := match x.q with
 | none => ⟨ctDone s, []⟩
 | some _ => ⟨s.o, (if s.p = [] then [x.f] else s.p) ++ [x.t]⟩
def ctFrom : List Th → Nat → Nat → Nat
 | [], _, r => r
 | x :: l, i, r => ctFrom l (i + 1) (if x.q.isNone then i + 1 else r)
def rotL (l : List Th) : List Th := l.drop (ctFrom l 0 0) ++ l.take (ctFrom l 0 0)
def cutF (l : List Th) : List (List Int) := ctDone ((rotL l).foldl ctStep ⟨[], []⟩)
theorem ctFrom_ok : ∀ {l : List Th} {i r : Nat}, (ctFrom l i r = r ∧ ∀ x ∈ l, x.q ≠ none) ∨ (∃ m x r', l = m ++ x :: r' ∧ x.q = none ∧ (∀ y ∈ r', y.q ≠ none) ∧ ctFrom l i r = i + m.length + 1)
 | [], i, r => .inl ⟨rfl, fun x h => (by cases h)⟩
 | x :: l, i, r => by
   rcases ctFrom_ok (l := l) (i := i + 1) (r := if x.q.isNone then i + 1 else r) with ⟨h1, h2⟩ | ⟨m, y, r', h1, h2, h3, h4⟩
   · cases e : x.q with
     | none =>
       refine .inr ⟨[], x, l, rfl, e, h2, ?_⟩
       show ctFrom l (i + 1) (if x.q.isNone then i + 1 else r) = _
       rw [h1, e]; rfl
     | some k =>
       refine .inl ⟨?_, fun y hy => ?_⟩
       · show ctFrom l (i + 1) (if x.q.isNone then i + 1 else r) = _
         rw [h1, e]; rfl
       · rcases List.mem_cons.1 hy with rfl | hy
         · rw [e]; exact fun h => (by cases h)
         · exact h2 y hy
   · refine .inr ⟨x :: m, y, r', by rw [h1]; rfl, h2, h3, ?_⟩
     show ctFrom l (i + 1) (if x.q.isNone then i + 1 else r) = _
     rw [h4]; simp only [List.length_cons]; omega
theorem ctFrom_le {l : List Th} : ctFrom l 0 0 ≤ l.length := by
 rcases ctFrom_ok (l := l) (i := 0) (r := 0) with ⟨h, _⟩ | ⟨m, x, r', h1, _, _, h4⟩
 · omega
 · rw [h4, h1]; simp only [List.length_append, List.length_cons]; omega
theorem rotL_len {l : List Th} : (rotL l).length = l.length := by
 have := ctFrom_le (l := l)
 unfold rotL
 rw [List.length_append, List.length_drop, List.length_take]; omega
theorem rotL_perm {l : List Th} : (rotL l).Perm l := by
 have := List.perm_append_comm (l₁ := l.drop (ctFrom l 0 0)) (l₂ := l.take (ctFrom l 0 0))
 rw [List.take_append_drop] at this
 exact this
theorem rotL_get {l : List Th} {i : Nat} (hi : i < l.length) : (rotL l)[i]? = l[(ctFrom l 0 0 + i) % l.length]? := by
 have h := ctFrom_le (l := l)
 unfold rotL
 rw [List.getElem?_append, List.length_drop]
 split
 · rw [List.getElem?_drop, Nat.mod_eq_of_lt (by omega)]
 · rw [List.getElem?_take, if_pos (by omega), show ctFrom l 0 0 + i = (i - (l.length - ctFrom l 0 0)) + l.length by omega, Nat.add_mod_right, Nat.mod_eq_of_lt (by omega)]
theorem rotL_walk {l : List Th} {k : Int} (h : Walk k l k) : ∃ c, Walk c (rotL l) c := by
 rw [← List.take_append_drop (ctFrom l 0 0) l, Walk.append_iff] at h
 obtain ⟨c, h1, h2⟩ := h
 exact ⟨c, h2.append h1⟩
def virN (l : List Th) : Nat := l.countP fun x => x.q.isNone
theorem no_adj {n : Nat} {b : Nat → Nat → Int} {s s' : SpS} {l m r : List Th} {x y : Th} {e k : Int} (a : Acc n b s l s') (h : l = m ++ x :: y :: r) (w : Walk e l k) : x.q ≠ none ∨ y.q ≠ none := by
 apply Classical.byContradiction
 intro c
 simp only [ne_eq, not_or, Decidable.not_not] at c
 have nod := a.nod
 rw [h, List.pairwise_append] at nod
 have := (List.pairwise_cons.1 nod.2.1).1 y (List.mem_cons.2 (.inl rfl))
 rw [h, Walk.append_iff] at w
 obtain ⟨c', _, w1, w2, _⟩ := w
 exact (this.2 c.1 c.2).2.2.1 w2.symm
structure CtOk (n : Nat) (b : Nat → Nat → Int) (l : List Th) (s : CtS) (c : Int) : Prop where
 cnt : ∀ j, cntL b j s.o + cntP b j s.p = (l.map fun x => if x.q.isNone then 0 else stp b x.f x.t j).sum
 ok : ∀ p ∈ s.o, PcOk n b p
 cur : s.p ≠ [] → (∃ m, s.p = m ++ [c]) ∧ 2 ≤ s.p.length ∧ hasP n b s.p
 num : s.o.length + (if s.p = [] then 0 else 1) = virN l + (if s.p = [] then 0 else 1)
 emp : s.p = [] ↔ l = [] ∨ ∃ m x, l = m ++ [x] ∧ x.q = none
theorem ct_step {n : Nat} {b : Nat → Nat → Int} {l : List Th} {s : CtS} {c : Int} {x : Th} (h : CtOk n b l s c) (hf : x.f = c) (hb : ∀ i, x.q = some i → ∃ j, j < n ∧ barEq b (imin x.f x.t) (imax x.f x.t) j = true) (hv : x.q = none → s.p ≠ []) : CtOk n b (l ++ [x]) (ctStep s x) x.t := by
 cases e : x.q with
 | none =>
   have hp := hv e
   obtain ⟨h1, h2, h3⟩ := h.cur hp
   have es : ctStep s x = ⟨s.o ++ [s.p], []⟩ := by
     unfold ctStep ctDone; rw [e, if_pos (by omega)]
   rw [es]
   refine ⟨fun j => ?_, fun p hm => ?_, fun h => absurd rfl h, ?_, ⟨fun _ => .inr ⟨l, x, rfl, e⟩, fun _ => rfl⟩⟩
   · have := h.cnt j
     simp only [List.map_append, List.sum_append, List.map_cons, List.map_nil, List.sum_cons, List.sum_nil, cntL_append, cntL]
     rw [e]
     show cntL b j s.o + (cntP b j s.p + 0) + 0 = _ + (0 + 0)
     omega
   · rcases List.mem_append.1 hm with hm | hm
     · exact h.ok p hm
     · rw [List.mem_singleton.1 hm]; exact ⟨h2, h3⟩
   · have := h.num
     rw [if_neg hp] at this
     rw [if_pos rfl]
     unfold virN at *
     rw [List.length_append, List.countP_append, List.countP_cons, e]
     simp only [List.length_singleton, List.countP_nil, Option.isNone_none, if_true]
     omega
 | some i =>
   have es : ctStep s x = ⟨s.o, (if s.p = [] then [x.f] else s.p) ++ [x.t]⟩ := by unfold ctStep; rw [e]
   rw [es]
   have ne : (if s.p = [] then [x.f] else s.p) ++ [x.t] ≠ [] := by simp
   have hcur : ∃ m, (if s.p = [] then [x.f] else s.p) = m ++ [x.f] := by
     by_cases q : s.p = []
     · rw [if_pos q]; exact ⟨[], rfl⟩
     · rw [if_neg q, hf]; exact (h.cur q).1
   obtain ⟨m, hm⟩ := hcur
   have hc0 : ∀ j, cntP b j (m ++ [x.f]) = cntP b j s.p := fun j => by
     rw [← hm]
     by_cases q : s.p = []
     · rw [if_pos q, q]; rfl
     · rw [if_neg q]
   have hh0 : hasP n b (m ++ [x.f]) := by
     rw [← hm]
     by_cases q : s.p = []
     · rw [if_pos q]; exact trivial
     · rw [if_neg q]; exact (h.cur q).2.2
   refine ⟨fun j => ?_, h.ok, fun _ => ?_, ?_, ⟨fun h => absurd h ne, fun o => ?_⟩⟩
   · have := h.cnt j
     simp only [List.map_append, List.sum_append, List.map_cons, List.map_nil, List.sum_cons, List.sum_nil]
     rw [e, hm, cntP_snoc, hc0]
     show _ = _ + (stp b x.f x.t j + 0)
     omega
   · rw [hm]
     refine ⟨⟨m ++ [x.f], rfl⟩, ?_, hasP_snoc.2 ⟨hh0, hb i e⟩⟩
     simp only [List.length_append, List.length_singleton]; omega
   · have := h.num
     rw [if_neg ne]
     unfold virN at *
     rw [List.countP_append, List.countP_cons, e]
     simp only [List.countP_nil, Option.isNone_some, Bool.false_eq_true, if_false]
     omega
   · rcases o with o | ⟨m', x', o, q⟩
     · simp at o
     · have := List.append_inj_right' o rfl
       simp only [List.cons.injEq, and_true] at this
       rw [← this, e] at q; cases q
theorem ct_fold {n : Nat} {b : Nat → Nat → Int} : ∀ {r l : List Th} {s : CtS} {c k : Int}, CtOk n b l s c → Walk c r k → (∀ x ∈ r, ∀ i, x.q = some i → ∃ j, j < n ∧ barEq b (imin x.f x.t) (imax x.f x.t) j = true) → (∀ m x r', l ++ r = m ++ x :: r' → x.q = none → ∃ m' y, m = m' ++ [y] ∧ y.q ≠ none) → CtOk n b (l ++ r) (r.foldl ctStep s) k
 | [], l, s, c, k, h, w, _, _ => by have w : c = k := w; subst w; rw [List.append_nil]; exact h
 | x :: r, l, s, c, k, h, w, hb, hv => by
   have := ct_fold (r := r) (l := l ++ [x]) (ct_step h w.1 (hb x (List.mem_cons.2 (.inl rfl))) fun e => by
     obtain ⟨m', y, h1, h2⟩ := hv l x r rfl e
     intro q
     rcases h.emp.1 q with o | ⟨m2, y2, o, q2⟩
     · rw [o] at h1; simp at h1
     · rw [h1] at o
       have := List.append_inj_right' o rfl
       simp only [List.cons.injEq, and_true] at this
       rw [this] at h2; exact h2 q2) w.2 (fun y hy => hb y (List.mem_cons.2 (.inr hy))) (by rw [List.append_assoc]; exact hv)
   rw [List.append_assoc] at this
   exact this
theorem imin_max {x y : Int} (h : x < y) : imin x y = x ∧ imax x y = y ∧ imin y x = x ∧ imax y x = y := by
 unfold imin imax
 rw [if_neg (by omega), if_pos h, if_pos h, if_neg (by omega)]
 exact ⟨rfl, rfl, rfl, rfl⟩
structure Cut (n : Nat) (b : Nat → Nat → Int) (l : List Th) (o : List (List Int)) : Prop where
 ok : ∀ p ∈ o, PcOk n b p
 cnt : ∀ j, j < n → cntL b j o = if usedB l j then 1 else 0
 num : o.length = max 1 (virN l)
theorem stp_bar {n : Nat} {b : Nat → Nat → Int} (hlt : ∀ i, i < n → b i 0 < b i 1) (dif : ∀ i, i < n → ∀ j, j < n → b i 0 = b j 0 → b i 1 = b j 1 → i = j) {i : Nat} (hi : i < n) {f t : Int} (he : (f = b i 0 ∧ t = b i 1) ∨ (f = b i 1 ∧ t = b i 0)) : barEq b (imin f t) (imax f t) i = true ∧ ∀ j, j < n → stp b f t j = if j = i then 1 else 0 := by
 obtain ⟨m1, m2, m3, m4⟩ := imin_max (hlt i hi)
 have e : imin f t = b i 0 ∧ imax f t = b i 1 := by
   rcases he with ⟨rfl, rfl⟩ | ⟨rfl, rfl⟩
   · exact ⟨m1, m2⟩
   · exact ⟨m3, m4⟩
 refine ⟨barEq_iff.2 ⟨e.1.symm, e.2.symm⟩, fun j hj => ?_⟩
 unfold stp
 by_cases c : j = i
 · subst c; rw [if_pos rfl, if_pos (barEq_iff.2 ⟨e.1.symm, e.2.symm⟩)]
 · rw [if_neg c, if_neg]
   intro h
   obtain ⟨h0, h1⟩ := barEq_iff.1 h
   exact c (dif j hj i hi (h0.trans e.1) (h1.trans e.2))
theorem sum_used {n : Nat} {b : Nat → Nat → Int} {j : Nat} {g : Th → Nat} : ∀ {l : List Th}, l.Pairwise ThNe → (∀ x ∈ l, ∀ i, x.q = some i → g x = if j = i then 1 else 0) → (l.map fun x => if x.q.isNone then 0 else g x).sum = if usedB l j then 1 else 0
 | [], _, _ => rfl
 | x :: l, h, hg => by
   obtain ⟨h1, h2⟩ := List.pairwise_cons.1 h
   have ih := sum_used (n := n) (b := b) (j := j) (g := g) (l := l) h2 fun y hy => hg y (List.mem_cons.2 (.inr hy))
   rw [List.map_cons, List.sum_cons, ih]
   cases e : x.q with
   | none =>
     have : usedB (x :: l) j = usedB l j := by
       unfold usedB; rw [List.any_cons, e]; rfl
     rw [this]; simp
   | some i =>
     rw [hg x (List.mem_cons.2 (.inl rfl)) i e]
     by_cases c : j = i
     · subst c
       have e1 : usedB (x :: l) j = true := usedB_iff.2 ⟨x, List.mem_cons.2 (.inl rfl), e⟩
       have e2 : usedB l j = false := by
         cases q : usedB l j with
         | false => rfl
         | true =>
           obtain ⟨y, hy, ey⟩ := usedB_iff.1 q
           exact absurd rfl ((h1 y hy).1 j j e ey)
       rw [e1, e2]; simp
     · have : usedB (x :: l) j = usedB l j := by
         unfold usedB; rw [List.any_cons, e]
         have : (some i == some j) = false := by simp [Ne.symm c]
         rw [this]; rfl
       rw [this, if_neg c]; simp
theorem cut_ok {n : Nat} {b : Nat → Nat → Int} (hlt : ∀ i, i < n → b i 0 < b i 1) (dif : ∀ i, i < n → ∀ j, j < n → b i 0 = b j 0 → b i 1 = b j 1 → i = j) {s s' : SpS} {l : List Th} {k : Int} (hj : ∀ v w, s.jn v = some w → v ≠ w) (a : Acc n b s l s') (w : Walk k l k) (hne : l ≠ []) : Cut n b l (cutF l) := by
 have aR : Acc n b s (rotL l) s' := a.perm rotL_perm.symm
 obtain ⟨c, wR⟩ := rotL_walk w
 have nR : rotL l ≠ [] := fun e => by
   have := rotL_len (l := l)
   rw [e] at this
   exact hne (List.length_eq_zero_iff.1 this.symm)
 have bars : ∀ x ∈ rotL l, ∀ i, x.q = some i → barEq b (imin x.f x.t) (imax x.f x.t) i = true ∧ i < n ∧ ∀ j, j < n → stp b x.f x.t j = if j = i then 1 else 0 := fun x hx i e => by
   have ok := aR.ok x hx
   unfold ThOk at ok
   rw [e] at ok
   have := stp_bar hlt dif ok.1 ok.2.2
   exact ⟨this.1, ok.1, this.2⟩
 have last : (∀ x ∈ rotL l, x.q ≠ none) ∨ ∃ m x, rotL l = m ++ [x] ∧ x.q = none := by
   rcases ctFrom_ok (l := l) (i := 0) (r := 0) with ⟨h1, h2⟩ | ⟨m, x, r', h1, h2, h3, h4⟩
   · exact .inl fun x hx => h2 x (rotL_perm.mem_iff.1 hx)
   · refine .inr ⟨l.drop (ctFrom l 0 0) ++ m, x, ?_, h2⟩
     unfold rotL
     have : l.take (ctFrom l 0 0) = m ++ [x] := by
       rw [h4, h1, show 0 + m.length + 1 = (m ++ [x]).length by simp, show m ++ x :: r' = (m ++ [x]) ++ r' by simp, List.take_left]
     rw [this, List.append_assoc]
 have key : ∀ m x r', rotL l = m ++ x :: r' → x.q = none → ∃ m' y, m = m' ++ [y] ∧ y.q ≠ none := by
   intro m x r' h q
   rcases List.eq_nil_or_concat m with rfl | ⟨m', y, rfl⟩
   · exfalso
     rw [List.nil_append] at h
     rcases last with o | ⟨m2, x2, o, q2⟩
     · exact o x (by rw [h]; exact List.mem_cons.2 (.inl rfl)) q
     · rw [h] at wR
       have okx := aR.ok x (by rw [h]; exact List.mem_cons.2 (.inl rfl))
       unfold ThOk at okx
       rw [q] at okx
       rcases List.eq_nil_or_concat r' with e0 | ⟨r2, z, e0⟩ <;> (first | subst e0 | skip)
       · have w2 : x.t = c := wR.2
         exact hj x.f x.t okx.1 (wR.1.trans w2.symm)
       · rw [List.concat_eq_append] at h wR
         rw [h, show x :: (r2 ++ [z]) = (x :: r2) ++ [z] by simp] at o
         have ez := List.append_inj_right' o rfl
         simp only [List.cons.injEq, and_true] at ez
         have qz : z.q = none := by rw [ez]; exact q2
         have nod := aR.nod
         rw [h] at nod
         have := ((List.pairwise_cons.1 nod).1 z (List.mem_append.2 (.inr (List.mem_singleton.2 rfl)))).2 q qz
         have w3 := Walk.append_iff.1 wR.2
         obtain ⟨d, _, w4⟩ := w3
         have w4 : z.f = d ∧ z.t = c := w4
         exact this.2.1 (wR.1.trans w4.2.symm)
   · refine ⟨m', y, by rw [List.concat_eq_append], ?_⟩
     rw [List.concat_eq_append, List.append_assoc] at h
     rcases no_adj aR h wR with o | o
     · exact o
     · exact absurd q o
 have F := ct_fold (n := n) (b := b) (r := rotL l) (l := []) (s := ⟨[], []⟩) (c := c) (k := c) ⟨fun j => rfl, fun p h => (by cases h), fun h => absurd rfl h, rfl, ⟨fun _ => .inl rfl, fun _ => rfl⟩⟩ wR (fun x hx i e => ⟨i, (bars x hx i e).2.1, (bars x hx i e).1⟩) (by rw [List.nil_append]; exact key)
 rw [List.nil_append] at F
 have hv : virN (rotL l) = virN l := rotL_perm.countP_eq _
 have hu : ∀ j, usedB (rotL l) j = usedB l j := fun j => by
   rw [Bool.eq_iff_iff, usedB_iff, usedB_iff]
   exact ⟨fun ⟨x, hx, e⟩ => ⟨x, rotL_perm.mem_iff.1 hx, e⟩, fun ⟨x, hx, e⟩ => ⟨x, rotL_perm.mem_iff.2 hx, e⟩⟩
 have sums : ∀ j, j < n → ((rotL l).map fun x => if x.q.isNone then 0 else stp b x.f x.t j).sum = if usedB l j then 1 else 0 := fun j hjn => by
   rw [sum_used (n := n) (b := b) (j := j) (g := fun x => stp b x.f x.t j) aR.nod (fun x hx i e => (bars x hx i e).2.2 j hjn), hu]
 unfold cutF
 by_cases e : ((rotL l).foldl ctStep ⟨[], []⟩).p = []
 · have ed : ctDone ((rotL l).foldl ctStep ⟨[], []⟩) = ((rotL l).foldl ctStep ⟨[], []⟩).o := by unfold ctDone; rw [e]; rfl
   rw [ed]
   refine ⟨F.ok, fun j hjn => ?_, ?_⟩
   · have := F.cnt j
     rw [sums j hjn, e] at this
     exact this
   · have := F.num
     rw [e, hv] at this
     simp only [if_true] at this
     have : 1 ≤ virN l := by
       rw [← hv]
       rcases F.emp.1 e with o | ⟨m, x, o, q⟩
       · exact absurd o nR
       · rw [o]
         unfold virN
         rw [List.countP_append, List.countP_cons, q]
         simp
     omega
 · obtain ⟨h1, h2, h3⟩ := F.cur e
   have ed : ctDone ((rotL l).foldl ctStep ⟨[], []⟩) = ((rotL l).foldl ctStep ⟨[], []⟩).o ++ [((rotL l).foldl ctStep ⟨[], []⟩).p] := by unfold ctDone; rw [if_pos (by omega)]
   rw [ed]
   refine ⟨fun p hp => ?_, fun j hjn => ?_, ?_⟩
   · rcases List.mem_append.1 hp with hp | hp
     · exact F.ok p hp
     · rw [List.mem_singleton.1 hp]; exact ⟨h2, h3⟩
   · have := F.cnt j
     rw [sums j hjn] at this
     rw [cntL_append]
     show _ + (cntP b j _ + 0) = _
     omega
   · have := F.num
     rw [if_neg e, hv] at this
     have h0 : virN l = 0 := by
       rw [← hv]
       rcases last with o | ⟨m, x, o, q⟩
       · unfold virN
         rw [List.countP_eq_zero]
         intro x hx
         have := o x hx
         cases c : x.q with
         | none => exact absurd c this
         | some i => simp
       · exact absurd (F.emp.2 (.inr ⟨m, x, o, q⟩)) e
     rw [List.length_append, List.length_singleton]; omega
end Nm
