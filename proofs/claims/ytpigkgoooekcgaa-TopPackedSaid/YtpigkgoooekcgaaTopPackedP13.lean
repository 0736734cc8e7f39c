/- Texts for the law of the last part, part 13. -/
import Derived.Test.YtpigkgoooekcgaaTopPackedP12
set_option linter.unusedSimpArgs false
set_option linter.unusedVariables false
namespace Go.Proofs.Ytpigkgoooekcgaa
open Go Go.Sx Bm
set_option maxRecDepth 100000
set_option maxHeartbeats 4000000
theorem q39 (x : sIn.α) : CallQ Try.prog E0 39 (sIn.arg x) (sIn.res x) := by
 refine bare_all E0_ok [] SigsOk.nil [] EvensOk.nil runs [] [] [] [] (fuel := 5) ?_
 refine of_red (q := (decide (x.snd.fst≤x.fst) = true→True∧decide (x.fst≤x.snd.snd) = within x.fst x.snd.fst x.snd.snd)∧(decide (x.snd.fst≤x.fst) = false→True∧within x.fst x.snd.fst x.snd.snd = false)) (by kernel_rfl) ?_
 simp [within]
 try omega
def sSpn : Sig := ⟨(Int × Int) × Int, fun x => [spanTV x.1.1 x.1.2, intC x.2], fun _ => True, fun x => [.v (.c (.bool (decide (0 ≤ x.1.1) && decide (x.1.1 ≤ x.1.2) && decide (x.1.2 ≤ x.2))))]⟩
theorem q63 (x : sSpn.α) : CallQ Try.prog E0 63 (sSpn.arg x) (sSpn.res x) := by
 refine bare_say E0_ok [] SigsOk.nil [] EvensOk.nil runs {} (fuel := 5) ?_
 refine of_red (q := (decide ((0 : Int)≤x.fst.fst) = true→(decide (x.fst.fst≤x.fst.snd) = true→True∧decide (x.fst.snd≤x.snd) = (decide ((0 : Int)≤x.fst.fst) && decide (x.fst.fst≤x.fst.snd) && decide (x.fst.snd≤x.snd)))∧(decide (x.fst.fst≤x.fst.snd) = false→True∧(decide ((0 : Int)≤x.fst.fst) && decide (x.fst.fst≤x.fst.snd) && decide (x.fst.snd≤x.snd)) = false))∧(decide ((0 : Int)≤x.fst.fst) = false→True∧(decide ((0 : Int)≤x.fst.fst) && decide (x.fst.fst≤x.fst.snd) && decide (x.fst.snd≤x.snd)) = false)) (by kernel_rfl) ?_
 simp only [true_and, and_true, inR, Prod.exists, Prod.forall, and_assoc, exists_and_left, exists_eq_left', exists_eq_left, forall_eq, exists_const, forall_const, loopN, loopM, fa2, fas, fas2, dup1, dup2, dup3, dup4, ite_true, exhs, exhn, exhz, exho, exA, ex1, ex2, ex3, ex4, ex5, beqI, bneI, decide_true, Bool.true_and, decide_eq_true_eq, decide_eq_false_iff_not, ne_eq, Decidable.not_not]
 exact ⟨fun a => ⟨fun b => by simp [a, b], fun b => by simp [b]⟩, fun a => by simp [a]⟩
def casksCV (n : Nat) (y : Nat → Nat → Int) : CV := .vs 5 n (fun i j => .int .i64 (y i j))
def caskOk (y : Nat → Int) : Bool := within (y 1) 1 1000 && within (y 0) 0 (y 1) && within (y 2) 0 (y 1) && (decide (0 ≤ y 3) && decide (y 3 ≤ y 4) && decide (y 4 ≤ 1000))
def yardOk (n : Nat) (y : Nat → Nat → Int) : Bool := within n 1 4 && allB n (fun i => caskOk (y i))
structure YdIn where
 n : Nat
 y : Nat → Nat → Int
def TI0 : List (Nat × Sig) := (63, sSpn) :: (39, sIn) :: TH
theorem TI0_ok : SigsOk Try.prog E0 TI0 := (TH_ok.cons (runs 39 (by kernel_rfl)) fun x _ => q39 x).cons (runs 63 (by kernel_rfl)) fun x _ => q63 x
def sYard : Sig := ⟨YdIn, fun x => [.c (casksCV x.n x.y)], fun x => x.n < 4611686018427387904, fun x => [.v (intC (if yardOk x.n x.y then 0 else 61))]⟩
def aYd (n : Nat) (y : Nat → Nat → Int) : Ann := { G := Nat, ok := fun _ i => i ≤ n, dom := fun _ => [], tm := fun _ i => [(12, .t (intC i)), (3, .t (.c (.bool (within n 1 4 && allB i (fun i => caskOk (y i))))))], hp := fun _ _ => [], mu := fun _ i => n - i }
theorem q38 (x : sYard.α) (h : sYard.pre x) : CallQ Try.prog E0 38 (sYard.arg x) (sYard.res x) := by
 obtain ⟨n, y⟩ := x
 refine bare_say E0_ok TI0 TI0_ok [] EvensOk.nil runs { l := [(38, 3, aYd n y)] } (fuel := 5) ?_
 refine of_red (q := ∃ (x : Int × Int × Int), ((True∧(↑n : Int) = x.fst)∧(True∧(1 : Int) = x.snd.fst)∧(True∧(4 : Int) = x.snd.snd)∧True)∧True∧(∃ (g : Nat), g≤n∧True∧((True∧(0 : Int) = (↑g : Int))∧(True∧within x.fst x.snd.fst x.snd.snd = (within (↑n : Int) (1 : Int) (4 : Int) && allB g fun (i : Nat) => caskOk (y i)))∧True)∧True)∧∀ (g : Nat), g≤n→(decide ((↑g : Int) < (↑n : Int)) = true→(0 : Int)≤(↑g : Int)∧(↑g : Int) < (↑n : Int)∧((within (↑n : Int) (1 : Int) (4 : Int) && allB g fun (i : Nat) => caskOk (y i)) = true→∃ (x : Int × Int × Int), ((True∧y g ((0 : Nat) + (nat_lit 0 + (1 : Nat))) = x.fst)∧(True∧(1 : Int) = x.snd.fst)∧(True∧(1000 : Int) = x.snd.snd)∧True)∧True∧(within x.fst x.snd.fst x.snd.snd = true→∃ (x : Int × Int × Int), ((True∧y g (0 : Nat) = x.fst)∧(True∧(0 : Int) = x.snd.fst)∧(True∧y g ((0 : Nat) + (nat_lit 0 + (1 : Nat))) = x.snd.snd)∧True)∧True∧(within x.fst x.snd.fst x.snd.snd = true→∃ (x : Int × Int × Int), ((True∧y g ((0 : Nat) + (nat_lit 1 + (1 : Nat))) = x.fst)∧(True∧(0 : Int) = x.snd.fst)∧(True∧y g ((0 : Nat) + (nat_lit 0 + (1 : Nat))) = x.snd.snd)∧True)∧True∧(within x.fst x.snd.fst x.snd.snd = true→∃ (x : (Int × Int) × Int), ((True∧(True∧True∧y g (nat_lit 0 + (nat_lit 2 + (1 : Nat))) = x.fst.fst)∧True∧y g (nat_lit 1 + (nat_lit 2 + (1 : Nat))) = x.fst.snd)∧(True∧(1000 : Int) = x.snd)∧True)∧True∧inRange IntKind.i64 ((↑g : Int) + (1 : Int))∧∃ (g' : Nat), g'≤n∧n - g' < n - g∧True∧((True∧(↑g : Int) + (1 : Int) = (↑g' : Int))∧(True∧(decide ((0 : Int)≤x.fst.fst) && decide (x.fst.fst≤x.fst.snd) && decide (x.fst.snd≤x.snd)) = (within (↑n : Int) (1 : Int) (4 : Int) && allB g' fun (i : Nat) => caskOk (y i)))∧True)∧True)∧(within x.fst x.snd.fst x.snd.snd = false→inRange IntKind.i64 ((↑g : Int) + (1 : Int))∧∃ (g' : Nat), g'≤n∧n - g' < n - g∧True∧((True∧(↑g : Int) + (1 : Int) = (↑g' : Int))∧(True∧(within (↑n : Int) (1 : Int) (4 : Int) && allB g' fun (i : Nat) => caskOk (y i)) = false)∧True)∧True))∧(within x.fst x.snd.fst x.snd.snd = false→inRange IntKind.i64 ((↑g : Int) + (1 : Int))∧∃ (g' : Nat), g'≤n∧n - g' < n - g∧True∧((True∧(↑g : Int) + (1 : Int) = (↑g' : Int))∧(True∧(within (↑n : Int) (1 : Int) (4 : Int) && allB g' fun (i : Nat) => caskOk (y i)) = false)∧True)∧True))∧(within x.fst x.snd.fst x.snd.snd = false→inRange IntKind.i64 ((↑g : Int) + (1 : Int))∧∃ (g' : Nat), g'≤n∧n - g' < n - g∧True∧((True∧(↑g : Int) + (1 : Int) = (↑g' : Int))∧(True∧(within (↑n : Int) (1 : Int) (4 : Int) && allB g' fun (i : Nat) => caskOk (y i)) = false)∧True)∧True))∧((within (↑n : Int) (1 : Int) (4 : Int) && allB g fun (i : Nat) => caskOk (y i)) = false→inRange IntKind.i64 ((↑g : Int) + (1 : Int))∧∃ (g' : Nat), g'≤n∧n - g' < n - g∧True∧((True∧(↑g : Int) + (1 : Int) = (↑g' : Int))∧(True∧(within (↑n : Int) (1 : Int) (4 : Int) && allB g' fun (i : Nat) => caskOk (y i)) = false)∧True)∧True))∧(decide ((↑g : Int) < (↑n : Int)) = false→((!(within (↑n : Int) (1 : Int) (4 : Int) && allB g fun (i : Nat) => caskOk (y i))) = true→True∧(61 : Int) = if yardOk n y = true then (0 : Int) else (61 : Int))∧((!(within (↑n : Int) (1 : Int) (4 : Int) && allB g fun (i : Nat) => caskOk (y i))) = false→True∧(0 : Int) = if yardOk n y = true then (0 : Int) else (61 : Int)))) (by kernel_rfl) ?_
 simp only [true_and, and_true, inR, Prod.exists, Prod.forall, and_assoc, exists_and_left, exists_eq_left', exists_eq_left, forall_eq, exists_const, forall_const, loopN, loopM, fa2, fas, fas2, dup1, dup2, dup3, dup4, ite_true, exhs, exhn, exhz, exho, exA, ex1, ex2, ex3, ex4, ex5, beqI, bneI, decide_true, Bool.true_and, decide_eq_true_eq, decide_eq_false_iff_not, ne_eq, Decidable.not_not]
 have h : n < 4611686018427387904 := h
 refine ⟨⟨0, Nat.zero_le _, rfl, by show within n 1 4 = (within n 1 4 && true); rw [Bool.and_true]⟩, fun g hg => ?_, fun w => ?_, fun w => ?_⟩
 · have st : (within n 1 4 && allB (g + 1) fun i => caskOk (y i)) = ((within n 1 4 && allB g fun i => caskOk (y i)) && caskOk (y g)) := (Bool.and_assoc ..).symm
   refine ⟨by omega, by omega, fun hw => ⟨fun c1 => ⟨fun c2 => ⟨fun c3 => ⟨by omega, by omega, g + 1, by omega, by omega, by omega, ?_⟩, fun c3 => ⟨by omega, by omega, g + 1, by omega, by omega, by omega, ?_⟩⟩, fun c2 => ⟨by omega, by omega, g + 1, by omega, by omega, by omega, ?_⟩⟩, fun c1 => ⟨by omega, by omega, g + 1, by omega, by omega, by omega, ?_⟩⟩, fun hw => ⟨by omega, by omega, g + 1, by omega, by omega, by omega, ?_⟩⟩
   · have c1 : within (y g 1) 1 1000 = true := c1
     have c2 : within (y g 0) 0 (y g 1) = true := c2
     have c3 : within (y g 2) 0 (y g 1) = true := c3
     rw [st, hw]; unfold caskOk; rw [c1, c2, c3]; simp
   · have c3 : within (y g 2) 0 (y g 1) = false := c3
     rw [st]; unfold caskOk; rw [c3]; simp
   · have c2 : within (y g 0) 0 (y g 1) = false := c2
     rw [st]; unfold caskOk; rw [c2]; simp
   · have c1 : within (y g 1) 1 1000 = false := c1
     rw [st]; unfold caskOk; rw [c1]; simp
   · rw [st, hw]; rfl
 · have w : yardOk n y = false := Eq.mp (Bool.not_eq_true' _) w
   rw [if_neg (by rw [w]; decide)]
 · have w : yardOk n y = true := Eq.mp (Bool.not_eq_false' _) w
   rw [if_pos w]
def levTV (l : Nat → Int) : TV := .a 4 (fun j => .int .i64 (l j))
def begF (n : Nat) (y : Nat → Nat → Int) (j : Nat) : Int := if j < n then y j 0 else 0
def sBeg : Sig := ⟨YdIn, fun x => [.c (casksCV x.n x.y)], fun x => x.n ≤ 4, fun x => [.v (levTV (begF x.n x.y))]⟩
def aBg (n : Nat) (y : Nat → Nat → Int) : Ann := { G := Nat, ok := fun _ i => i ≤ n, dom := fun st => [osN (st.tm 3)], tm := fun _ i => [(7, .t (intC i))], hp := fun st i => [(osN (st.tm 3), .self, some (.box 4 (fun j => .int .i64 (begF i y j))))], mu := fun _ i => n - i }
theorem q43 (x : sBeg.α) (h : sBeg.pre x) : CallQ Try.prog E0 43 (sBeg.arg x) (sBeg.res x) := by
 obtain ⟨n, y⟩ := x
 refine bare_say E0_ok TI0 TI0_ok [] EvensOk.nil runs { l := [(43, 3, aBg n y)] } (fuel := 5) ?_
 refine of_red (q := (∃ (g : Nat), g≤n∧True∧((True∧(0 : Int) = (↑g : Int))∧True)∧(True∧(((True∧True∧(0 : Int) = begF g y 0)∧True∧(0 : Int) = begF g y 1)∧True∧(0 : Int) = begF g y 2)∧True∧(0 : Int) = begF g y 3)∧True)∧∀ (g : Nat), g≤n→(decide ((↑g : Int) < (↑n : Int)) = true→(0 : Int)≤(↑g : Int)∧(↑g : Int) < (↑n : Int)∧(0 : Int)≤(↑g : Int)∧(↑g : Int) < (↑(4 : Nat) : Int)∧inRange IntKind.i64 ((↑g : Int) + (1 : Int))∧∃ (g' : Nat), g'≤n∧n - g' < n - g∧True∧((True∧(↑g : Int) + (1 : Int) = (↑g' : Int))∧True)∧(True∧(((True∧True∧(if nat_lit 0 = (0 : Nat) + g * (1 : Nat) + (0 : Nat) then y g (0 : Nat) else begF g y 0) = begF g' y 0)∧True∧(if nat_lit 1 = (0 : Nat) + g * (1 : Nat) + (0 : Nat) then y g (0 : Nat) else begF g y 1) = begF g' y 1)∧True∧(if nat_lit 2 = (0 : Nat) + g * (1 : Nat) + (0 : Nat) then y g (0 : Nat) else begF g y 2) = begF g' y 2)∧True∧(if nat_lit 3 = (0 : Nat) + g * (1 : Nat) + (0 : Nat) then y g (0 : Nat) else begF g y 3) = begF g' y 3)∧True)∧(decide ((↑g : Int) < (↑n : Int)) = false→True∧(((True∧True∧begF g y 0 = begF n y 0)∧True∧begF g y 1 = begF n y 1)∧True∧begF g y 2 = begF n y 2)∧True∧begF g y 3 = begF n y 3)) (by kernel_rfl) ?_
 simp only [true_and, and_true, inR, Prod.exists, Prod.forall, and_assoc, exists_and_left, exists_eq_left', exists_eq_left, forall_eq, exists_const, forall_const, loopN, loopM, fa2, fas, fas2, dup1, dup2, dup3, dup4, ite_true, exhs, exhn, exhz, exho, exA, ex1, ex2, ex3, ex4, ex5, beqI, bneI, decide_true, Bool.true_and, decide_eq_true_eq, decide_eq_false_iff_not, ne_eq, Decidable.not_not]
 have h : n ≤ 4 := h
 have st : ∀ g j, (if j = 0 + g * 1 + 0 then y g 0 else begF g y j) = begF (g + 1) y j := fun g j => by
   unfold begF
   by_cases e : j = g
   · subst e; rw [if_pos (by omega), if_pos (by omega)]
   · rw [if_neg (by omega)]
     by_cases c : j < g
     · rw [if_pos c, if_pos (by omega)]
     · rw [if_neg c, if_neg (by omega)]
 exact ⟨⟨0, Nat.zero_le _, rfl, rfl, rfl, rfl, rfl⟩, fun g hg => ⟨by omega, by omega, by omega, by omega, by omega, by omega, g + 1, by omega, by omega, by omega, st g 0, st g 1, st g 2, st g 3⟩⟩
def mostC (n : Nat) (y : Nat → Nat → Int) : CV := .fn 64 [] (fun _ _ => .any) 1 (fun _ => .ip 1 (fun _ => casksCV n y))
def sMost : Sig := ⟨YdIn, fun x => [.c (casksCV x.n x.y)], fun x => x.n < 4611686018427387904, fun x => [.v (.a 1 (fun _ => mostC x.n x.y))]⟩
theorem q42 (x : sMost.α) (h : sMost.pre x) : CallQ Try.prog E0 42 (sMost.arg x) (sMost.res x) := by
 obtain ⟨n, y⟩ := x
 refine bare_say E0_ok TI0 TI0_ok [] EvensOk.nil runs {} (fuel := 5) ?_
 refine of_red (q := True∧True∧True∧True∧True∧True∧True∧True∧True∧n = n∧∀ (i : Nat), i < n→((((True∧y i 0 = y i 0)∧y i 1 = y i 1)∧y i 2 = y i 2)∧y i 3 = y i 3)∧y i 4 = y i 4) (by kernel_rfl) ?_
 simp only [true_and, and_true, inR, Prod.exists, Prod.forall, and_assoc, exists_and_left, exists_eq_left', exists_eq_left, forall_eq, exists_const, forall_const, loopN, loopM, fa2, fas, fas2, dup1, dup2, dup3, dup4, ite_true, exhs, exhn, exhz, exho, exA, ex1, ex2, ex3, ex4, ex5, beqI, bneI, decide_true, Bool.true_and, decide_eq_true_eq, decide_eq_false_iff_not, ne_eq, Decidable.not_not]
 exact fun _ _ => trivial
structure LkIn where
 n : Nat
 y : Nat → Nat → Int
 m : Int
 b : Int
def sMo1 : Sig := ⟨LkIn, fun x => [intC x.m, intC x.b, .c (.ip 1 (fun _ => casksCV x.n x.y))], fun x => 0 ≤ x.b ∧ x.b < x.n, fun x => [.v (intC (x.y x.b.toNat 4))]⟩
theorem q64 (x : sMo1.α) (h : sMo1.pre x) : CallQ Try.prog E0 64 (sMo1.arg x) (sMo1.res x) := by
 obtain ⟨n, y, m, b⟩ := x
 refine bare_say E0_ok TI0 TI0_ok [] EvensOk.nil runs {} (fuel := 5) ?_
 refine of_red (q := (0 : Int)≤b∧b < (↑n : Int)∧True∧y b.toNat ((0 : Nat) + (nat_lit 0 + (1 : Nat)) + (nat_lit 2 + (1 : Nat))) = y b.toNat (4 : Nat)) (by kernel_rfl) ?_
 simp only [true_and, and_true, inR, Prod.exists, Prod.forall, and_assoc, exists_and_left, exists_eq_left', exists_eq_left, forall_eq, exists_const, forall_const, loopN, loopM, fa2, fas, fas2, dup1, dup2, dup3, dup4, ite_true, exhs, exhn, exhz, exho, exA, ex1, ex2, ex3, ex4, ex5, beqI, bneI, decide_true, Bool.true_and, decide_eq_true_eq, decide_eq_false_iff_not, ne_eq, Decidable.not_not]
 exact h
def lvI (l lk : Nat → Int) (i j : Nat) : Int := if j < i then imax 0 (l j - lk j) else l j
def dryI (y : Nat → Nat → Int) (l lk : Nat → Int) : Nat → Int
 | 0 => -1
 | i + 1 => if imax 0 (l i - lk i) < y i 2 ∧ dryI y l lk i < 0 then (i : Int) else dryI y l lk i
structure LdIn where
 n : Nat
 y : Nat → Nat → Int
 l : Nat → Int
 m : Int
structure LdIn.ok (x : LdIn) (lk : Nat → Int) : Prop where
 n4 : x.n ≤ 4
 l : ∀ j, j < x.n → 0 ≤ x.l j ∧ x.l j ≤ 1000
 k : ∀ j, j < x.n → 0 ≤ lk j ∧ lk j ≤ 1000
def lkM (x : LdIn) (i : Nat) : Int := x.y i 4
def sLdM : Sig := ⟨LdIn, fun x => [.c (casksCV x.n x.y), levTV x.l, intC x.m, .a 1 (fun _ => mostC x.n x.y)], fun x => x.ok (lkM x), fun x => [.v (levTV (lvI x.l (lkM x) x.n)), .v (intC (dryI x.y x.l (lkM x) x.n))]⟩
def aLk (n : Nat) (y : Nat → Nat → Int) (l lk : Nat → Int) : Ann := { G := Nat, ok := fun _ i => i ≤ n, dom := fun st => [osN (st.tm 5)], tm := fun _ i => [(14, .t (intC i)), (10, .t (intC (dryI y l lk i)))], hp := fun st i => [(osN (st.tm 5), .self, some (.box 4 (fun j => .int .i64 (lvI l lk i j))))], mu := fun _ i => n - i }
def TI1 : List (Nat × Sig) := (64, sMo1) :: (42, sMost) :: (43, sBeg) :: (38, sYard) :: TI0
theorem TI1_ok : SigsOk Try.prog E0 TI1 := (((TI0_ok.cons (runs 38 (by kernel_rfl)) q38).cons (runs 43 (by kernel_rfl)) q43).cons (runs 42 (by kernel_rfl)) q42).cons (runs 64 (by kernel_rfl)) q64
theorem lv_at {l lk : Nat → Int} {g : Nat} : lvI l lk g (0 + g * 1 + 0 + 0) = l g := by
 have e : 0 + g * 1 + 0 + 0 = g := by omega
 rw [e]; unfold lvI; rw [if_neg (Nat.lt_irrefl g)]
theorem lv_step {l lk : Nat → Int} {g j : Nat} : (if j = 0 + g * 1 + 0 then imax 0 (l g - lk g) else lvI l lk g j) = lvI l lk (g + 1) j := by
 unfold lvI
 by_cases e : j = g
 · subst e; rw [if_pos (by omega), if_pos (by omega)]
 · rw [if_neg (by omega)]
   by_cases c : j < g
   · rw [if_pos c, if_pos (by omega)]
   · rw [if_neg c, if_neg (by omega)]
theorem dry_yes {y : Nat → Nat → Int} {l lk : Nat → Int} {g : Nat} (c : imax 0 (l g - lk g) < y g 2) (d : dryI y l lk g < 0) : (g : Int) = dryI y l lk (g + 1) := by
 rw [dryI, if_pos ⟨c, d⟩]
theorem dry_no {y : Nat → Nat → Int} {l lk : Nat → Int} {g : Nat} (c : ¬ (imax 0 (l g - lk g) < y g 2 ∧ dryI y l lk g < 0)) : dryI y l lk g = dryI y l lk (g + 1) := by
 rw [dryI, if_neg c]
theorem q41m (x : sLdM.α) (h : sLdM.pre x) : CallQ Try.prog E0 41 (sLdM.arg x) (sLdM.res x) := by
 obtain ⟨n, y, l, m⟩ := x
 refine bare_say E0_ok TI1 TI1_ok [] EvensOk.nil runs { l := [(41, 3, aLk n y l (fun i => y i 4))] } (fuel := 5) ?_
 refine of_red (q := (∃ (g : Nat), g≤n∧True∧((True∧(0 : Int) = (↑g : Int))∧(True∧(-1 : Int) = dryI y l (fun (i : Nat) => y i (4 : Nat)) g)∧True)∧(True∧(((True∧True∧l 0 = lvI l (fun (i : Nat) => y i (4 : Nat)) g 0)∧True∧l 1 = lvI l (fun (i : Nat) => y i (4 : Nat)) g 1)∧True∧l 2 = lvI l (fun (i : Nat) => y i (4 : Nat)) g 2)∧True∧l 3 = lvI l (fun (i : Nat) => y i (4 : Nat)) g 3)∧True)∧∀ (g : Nat), g≤n→(decide ((↑g : Int) < (↑n : Int)) = true→(0 : Int)≤(↑g : Int)∧(↑g : Int) < (↑(4 : Nat) : Int)∧∃ (x : LkIn), ((True∧m = x.m)∧(True∧(↑g : Int) = x.b)∧(True∧True∧True∧True∧n = x.n∧∀ (i : Nat), i < n→((((True∧y i 0 = x.y i 0)∧y i 1 = x.y i 1)∧y i 2 = x.y i 2)∧y i 3 = x.y i 3)∧y i 4 = x.y i 4)∧True)∧((0 : Int)≤x.b∧x.b < (↑x.n : Int))∧inRange IntKind.i64 (lvI l (fun (i : Nat) => y i (4 : Nat)) g ((0 : Nat) + g * (1 : Nat) + (0 : Nat) + (0 : Nat)) - x.y x.b.toNat (4 : Nat))∧(0 : Int)≤(↑g : Int)∧(↑g : Int) < (↑(4 : Nat) : Int)∧(0 : Int)≤(↑g : Int)∧(↑g : Int) < (↑(4 : Nat) : Int)∧(0 : Int)≤(↑g : Int)∧(↑g : Int) < (↑n : Int)∧(decide ((if (0 : Nat) + g * (1 : Nat) + (0 : Nat) + (0 : Nat) = (0 : Nat) + g * (1 : Nat) + (0 : Nat) then imax (0 : Int) (lvI l (fun (i : Nat) => y i (4 : Nat)) g ((0 : Nat) + g * (1 : Nat) + (0 : Nat) + (0 : Nat)) - x.y x.b.toNat (4 : Nat)) else lvI l (fun (i : Nat) => y i (4 : Nat)) g ((0 : Nat) + g * (1 : Nat) + (0 : Nat) + (0 : Nat))) < y g ((0 : Nat) + (nat_lit 1 + (1 : Nat)))) = true→(decide (dryI y l (fun (i : Nat) => y i (4 : Nat)) g < (0 : Int)) = true→inRange IntKind.i64 ((↑g : Int) + (1 : Int))∧∃ (g' : Nat), g'≤n∧n - g' < n - g∧True∧((True∧(↑g : Int) + (1 : Int) = (↑g' : Int))∧(True∧(↑g : Int) = dryI y l (fun (i : Nat) => y i (4 : Nat)) g')∧True)∧(True∧(((True∧True∧(if nat_lit 0 = (0 : Nat) + g * (1 : Nat) + (0 : Nat) then imax (0 : Int) (lvI l (fun (i : Nat) => y i (4 : Nat)) g ((0 : Nat) + g * (1 : Nat) + (0 : Nat) + (0 : Nat)) - x.y x.b.toNat (4 : Nat)) else lvI l (fun (i : Nat) => y i (4 : Nat)) g 0) = lvI l (fun (i : Nat) => y i (4 : Nat)) g' 0)∧True∧(if nat_lit 1 = (0 : Nat) + g * (1 : Nat) + (0 : Nat) then imax (0 : Int) (lvI l (fun (i : Nat) => y i (4 : Nat)) g ((0 : Nat) + g * (1 : Nat) + (0 : Nat) + (0 : Nat)) - x.y x.b.toNat (4 : Nat)) else lvI l (fun (i : Nat) => y i (4 : Nat)) g 1) = lvI l (fun (i : Nat) => y i (4 : Nat)) g' 1)∧True∧(if nat_lit 2 = (0 : Nat) + g * (1 : Nat) + (0 : Nat) then imax (0 : Int) (lvI l (fun (i : Nat) => y i (4 : Nat)) g ((0 : Nat) + g * (1 : Nat) + (0 : Nat) + (0 : Nat)) - x.y x.b.toNat (4 : Nat)) else lvI l (fun (i : Nat) => y i (4 : Nat)) g 2) = lvI l (fun (i : Nat) => y i (4 : Nat)) g' 2)∧True∧(if nat_lit 3 = (0 : Nat) + g * (1 : Nat) + (0 : Nat) then imax (0 : Int) (lvI l (fun (i : Nat) => y i (4 : Nat)) g ((0 : Nat) + g * (1 : Nat) + (0 : Nat) + (0 : Nat)) - x.y x.b.toNat (4 : Nat)) else lvI l (fun (i : Nat) => y i (4 : Nat)) g 3) = lvI l (fun (i : Nat) => y i (4 : Nat)) g' 3)∧True)∧(decide (dryI y l (fun (i : Nat) => y i (4 : Nat)) g < (0 : Int)) = false→inRange IntKind.i64 ((↑g : Int) + (1 : Int))∧∃ (g' : Nat), g'≤n∧n - g' < n - g∧True∧((True∧(↑g : Int) + (1 : Int) = (↑g' : Int))∧(True∧dryI y l (fun (i : Nat) => y i (4 : Nat)) g = dryI y l (fun (i : Nat) => y i (4 : Nat)) g')∧True)∧(True∧(((True∧True∧(if nat_lit 0 = (0 : Nat) + g * (1 : Nat) + (0 : Nat) then imax (0 : Int) (lvI l (fun (i : Nat) => y i (4 : Nat)) g ((0 : Nat) + g * (1 : Nat) + (0 : Nat) + (0 : Nat)) - x.y x.b.toNat (4 : Nat)) else lvI l (fun (i : Nat) => y i (4 : Nat)) g 0) = lvI l (fun (i : Nat) => y i (4 : Nat)) g' 0)∧True∧(if nat_lit 1 = (0 : Nat) + g * (1 : Nat) + (0 : Nat) then imax (0 : Int) (lvI l (fun (i : Nat) => y i (4 : Nat)) g ((0 : Nat) + g * (1 : Nat) + (0 : Nat) + (0 : Nat)) - x.y x.b.toNat (4 : Nat)) else lvI l (fun (i : Nat) => y i (4 : Nat)) g 1) = lvI l (fun (i : Nat) => y i (4 : Nat)) g' 1)∧True∧(if nat_lit 2 = (0 : Nat) + g * (1 : Nat) + (0 : Nat) then imax (0 : Int) (lvI l (fun (i : Nat) => y i (4 : Nat)) g ((0 : Nat) + g * (1 : Nat) + (0 : Nat) + (0 : Nat)) - x.y x.b.toNat (4 : Nat)) else lvI l (fun (i : Nat) => y i (4 : Nat)) g 2) = lvI l (fun (i : Nat) => y i (4 : Nat)) g' 2)∧True∧(if nat_lit 3 = (0 : Nat) + g * (1 : Nat) + (0 : Nat) then imax (0 : Int) (lvI l (fun (i : Nat) => y i (4 : Nat)) g ((0 : Nat) + g * (1 : Nat) + (0 : Nat) + (0 : Nat)) - x.y x.b.toNat (4 : Nat)) else lvI l (fun (i : Nat) => y i (4 : Nat)) g 3) = lvI l (fun (i : Nat) => y i (4 : Nat)) g' 3)∧True))∧(decide ((if (0 : Nat) + g * (1 : Nat) + (0 : Nat) + (0 : Nat) = (0 : Nat) + g * (1 : Nat) + (0 : Nat) then imax (0 : Int) (lvI l (fun (i : Nat) => y i (4 : Nat)) g ((0 : Nat) + g * (1 : Nat) + (0 : Nat) + (0 : Nat)) - x.y x.b.toNat (4 : Nat)) else lvI l (fun (i : Nat) => y i (4 : Nat)) g ((0 : Nat) + g * (1 : Nat) + (0 : Nat) + (0 : Nat))) < y g ((0 : Nat) + (nat_lit 1 + (1 : Nat)))) = false→inRange IntKind.i64 ((↑g : Int) + (1 : Int))∧∃ (g' : Nat), g'≤n∧n - g' < n - g∧True∧((True∧(↑g : Int) + (1 : Int) = (↑g' : Int))∧(True∧dryI y l (fun (i : Nat) => y i (4 : Nat)) g = dryI y l (fun (i : Nat) => y i (4 : Nat)) g')∧True)∧(True∧(((True∧True∧(if nat_lit 0 = (0 : Nat) + g * (1 : Nat) + (0 : Nat) then imax (0 : Int) (lvI l (fun (i : Nat) => y i (4 : Nat)) g ((0 : Nat) + g * (1 : Nat) + (0 : Nat) + (0 : Nat)) - x.y x.b.toNat (4 : Nat)) else lvI l (fun (i : Nat) => y i (4 : Nat)) g 0) = lvI l (fun (i : Nat) => y i (4 : Nat)) g' 0)∧True∧(if nat_lit 1 = (0 : Nat) + g * (1 : Nat) + (0 : Nat) then imax (0 : Int) (lvI l (fun (i : Nat) => y i (4 : Nat)) g ((0 : Nat) + g * (1 : Nat) + (0 : Nat) + (0 : Nat)) - x.y x.b.toNat (4 : Nat)) else lvI l (fun (i : Nat) => y i (4 : Nat)) g 1) = lvI l (fun (i : Nat) => y i (4 : Nat)) g' 1)∧True∧(if nat_lit 2 = (0 : Nat) + g * (1 : Nat) + (0 : Nat) then imax (0 : Int) (lvI l (fun (i : Nat) => y i (4 : Nat)) g ((0 : Nat) + g * (1 : Nat) + (0 : Nat) + (0 : Nat)) - x.y x.b.toNat (4 : Nat)) else lvI l (fun (i : Nat) => y i (4 : Nat)) g 2) = lvI l (fun (i : Nat) => y i (4 : Nat)) g' 2)∧True∧(if nat_lit 3 = (0 : Nat) + g * (1 : Nat) + (0 : Nat) then imax (0 : Int) (lvI l (fun (i : Nat) => y i (4 : Nat)) g ((0 : Nat) + g * (1 : Nat) + (0 : Nat) + (0 : Nat)) - x.y x.b.toNat (4 : Nat)) else lvI l (fun (i : Nat) => y i (4 : Nat)) g 3) = lvI l (fun (i : Nat) => y i (4 : Nat)) g' 3)∧True))∧(decide ((↑g : Int) < (↑n : Int)) = false→(True∧(((True∧True∧lvI l (fun (i : Nat) => y i (4 : Nat)) g 0 = lvI l (lkM { n := n, y := y, l := l, m := m }) n 0)∧True∧lvI l (fun (i : Nat) => y i (4 : Nat)) g 1 = lvI l (lkM { n := n, y := y, l := l, m := m }) n 1)∧True∧lvI l (fun (i : Nat) => y i (4 : Nat)) g 2 = lvI l (lkM { n := n, y := y, l := l, m := m }) n 2)∧True∧lvI l (fun (i : Nat) => y i (4 : Nat)) g 3 = lvI l (lkM { n := n, y := y, l := l, m := m }) n 3)∧(True∧dryI y l (fun (i : Nat) => y i (4 : Nat)) g = dryI y l (lkM { n := n, y := y, l := l, m := m }) n)∧True)) (by kernel_rfl) ?_
 simp only [true_and, and_true, inR, Prod.exists, Prod.forall, and_assoc, exists_and_left, exists_eq_left', exists_eq_left, forall_eq, exists_const, forall_const, loopN, loopM, fa2, fas, fas2, dup1, dup2, dup3, dup4, ite_true, exhs, exhn, exhz, exho, exA, ex1, ex2, ex3, ex4, ex5, beqI, bneI, decide_true, Bool.true_and, decide_eq_true_eq, decide_eq_false_iff_not, ne_eq, Decidable.not_not]
 obtain ⟨h4, hl, hk⟩ : LdIn.ok ⟨n, y, l, m⟩ (fun i => y i 4) := h
 have h4 : n ≤ 4 := h4
 refine ⟨⟨0, Nat.zero_le _, rfl, rfl, rfl, rfl, rfl, rfl⟩, fun g hg => ?_, rfl, rfl, rfl, rfl, rfl⟩
 obtain ⟨l1, l2⟩ : 0 ≤ l g ∧ l g ≤ 1000 := hl g hg
 obtain ⟨k1, k2⟩ : 0 ≤ y g 4 ∧ y g 4 ≤ 1000 := hk g hg
 rw [lv_at]
 refine ⟨by omega, by omega, ⟨n, y, m, g⟩, rfl, rfl, rfl, fun _ _ => ⟨rfl, rfl, rfl, rfl, rfl⟩, by show (0 : Int) ≤ (g : Int); omega, by show (g : Int) < (n : Int); omega, by show _ ≤ l g - y g 4; omega, by show l g - y g 4 ≤ _; omega, by omega, by omega, by omega, by omega, by omega, by omega, fun c => ⟨fun d => ?_, fun d => ?_⟩, fun c => ?_⟩
 · exact ⟨by omega, by omega, g + 1, by omega, by omega, by omega, dry_yes (lk := fun i => y i 4) c d, lv_step (lk := fun i => y i 4), lv_step (lk := fun i => y i 4), lv_step (lk := fun i => y i 4), lv_step (lk := fun i => y i 4)⟩
 · exact ⟨by omega, by omega, g + 1, by omega, by omega, by omega, dry_no (lk := fun i => y i 4) (fun q => d q.2), lv_step (lk := fun i => y i 4), lv_step (lk := fun i => y i 4), lv_step (lk := fun i => y i 4), lv_step (lk := fun i => y i 4)⟩
 · exact ⟨by omega, by omega, g + 1, by omega, by omega, by omega, dry_no (lk := fun i => y i 4) (fun q => c q.1), lv_step (lk := fun i => y i 4), lv_step (lk := fun i => y i 4), lv_step (lk := fun i => y i 4), lv_step (lk := fun i => y i 4)⟩
def TI2 : List (Nat × Sig) := (41, sLdM) :: TI1
theorem TI2_ok : SigsOk Try.prog E0 TI2 := TI1_ok.cons (runs 41 (by kernel_rfl)) q41m
def cask0 (_ j : Nat) : Int := ([9, 9, 5, 1, 3] : List Int).getD j 0
def s28 : Sig := ⟨Unit, fun _ => [.c (casksCV 1 cask0), intC 5], fun _ => True, fun _ => [.v (intC 0), .v (intC 1), .v (intC 0)]⟩
def lev0 (g : Int) (j : Nat) : CV := .int .i64 (if j = 0 then 9 - 3 * g else 0)
def aF1 : Ann := { G := Nat, ok := fun _ g => g ≤ 1, dom := fun st => [osN (st.tm 8)], tm := fun _ g => [(22, .t (intC g))], hp := fun st g => [(osN (st.tm 8), .self, some (.box 4 (lev0 g)))], mu := fun _ g => 2 - g }
theorem exYd {n : Nat} {y : Nat → Nat → Int} {R : YdIn → Prop} (h : R ⟨n, y⟩) : ∃ x : YdIn, n = x.n ∧ (∀ i, i < n → y i 0 = x.y i 0 ∧ y i 1 = x.y i 1 ∧ y i 2 = x.y i 2 ∧ y i 3 = x.y i 3 ∧ y i 4 = x.y i 4) ∧ R x := ⟨⟨n, y⟩, rfl, fun _ _ => ⟨rfl, rfl, rfl, rfl, rfl⟩, h⟩
theorem exLd {n : Nat} {y : Nat → Nat → Int} {l : Nat → Int} {m : Int} {R : LdIn → Prop} (h : R ⟨n, y, l, m⟩) : ∃ x : LdIn, n = x.n ∧ (∀ i, i < n → y i 0 = x.y i 0 ∧ y i 1 = x.y i 1 ∧ y i 2 = x.y i 2 ∧ y i 3 = x.y i 3 ∧ y i 4 = x.y i 4) ∧ l 0 = x.l 0 ∧ l 1 = x.l 1 ∧ l 2 = x.l 2 ∧ l 3 = x.l 3 ∧ m = x.m ∧ n = x.n ∧ (∀ i, i < n → y i 0 = x.y i 0 ∧ y i 1 = x.y i 1 ∧ y i 2 = x.y i 2 ∧ y i 3 = x.y i 3 ∧ y i 4 = x.y i 4) ∧ R x := ⟨⟨n, y, l, m⟩, rfl, fun _ _ => ⟨rfl, rfl, rfl, rfl, rfl⟩, rfl, rfl, rfl, rfl, rfl, rfl, fun _ _ => ⟨rfl, rfl, rfl, rfl, rfl⟩, h⟩
theorem yd0 : yardOk 1 cask0 = true := by decide
theorem ld0 {g : Int} (h : 0 ≤ g) (h2 : g ≤ 1) : LdIn.ok ⟨1, cask0, fun j => if j = 0 then 9 - 3 * g else 0, g⟩ (lkM ⟨1, cask0, fun j => if j = 0 then 9 - 3 * g else 0, g⟩) :=
 ⟨show 1 ≤ 4 by decide, fun j hj => by
   have hj : j < 1 := hj
   obtain rfl : j = 0 := by omega
   show 0 ≤ 9 - 3 * g ∧ 9 - 3 * g ≤ 1000
   omega, fun j hj => by show (0 : Int) ≤ 3 ∧ (3 : Int) ≤ 1000; decide⟩
theorem q28s (x : s28.α) : CallQ Try.prog E0 28 (s28.arg x) (s28.res x) := by
 refine bare_say E0_ok TI2 TI2_ok [] EvensOk.nil runs { l := [(28, 8, aF1)], o := [(28, 11, fun st => [(osN (st.tm 8), [9])])] } (fuel := 5) ?_
 refine of_red (q := ∃ (x : YdIn), ((True∧True∧(1 : Nat) = x.n∧∀ (i : Nat), i < (1 : Nat)→((((True∧cask0 i 0 = x.y i 0)∧cask0 i 1 = x.y i 1)∧cask0 i 2 = x.y i 2)∧cask0 i 3 = x.y i 3)∧cask0 i 4 = x.y i 4)∧True)∧x.n < (4611686018427387904 : Nat)∧(((if yardOk x.n x.y = true then (0 : Int) else (61 : Int)) != (0 : Int)) = true→(True∧(0 : Int) = (0 : Int))∧(True∧(0 : Int) = (1 : Int))∧(True∧(if yardOk x.n x.y = true then (0 : Int) else (61 : Int)) = (0 : Int))∧True)∧(((if yardOk x.n x.y = true then (0 : Int) else (61 : Int)) != (0 : Int)) = false→∃ (x : Int × Int × Int), ((True∧(5 : Int) = x.fst)∧(True∧(0 : Int) = x.snd.fst)∧(True∧(12 : Int) = x.snd.snd)∧True)∧True∧((!within x.fst x.snd.fst x.snd.snd) = true→(True∧(0 : Int) = (0 : Int))∧(True∧(0 : Int) = (1 : Int))∧(True∧(62 : Int) = (0 : Int))∧True)∧((!within x.fst x.snd.fst x.snd.snd) = false→∃ (x : YdIn), ((True∧True∧(1 : Nat) = x.n∧∀ (i : Nat), i < (1 : Nat)→((((True∧cask0 i 0 = x.y i 0)∧cask0 i 1 = x.y i 1)∧cask0 i 2 = x.y i 2)∧cask0 i 3 = x.y i 3)∧cask0 i 4 = x.y i 4)∧True)∧x.n≤(4 : Nat)∧(∃ (g : Nat), g≤(1 : Nat)∧True∧((True∧(0 : Int) = (↑g : Int))∧True)∧(True∧(((True∧True∧begF x.n x.y 0 = (9 : Int) - (3 : Int) * (↑g : Int))∧True∧begF x.n x.y 1 = (0 : Int))∧True∧begF x.n x.y 2 = (0 : Int))∧True∧begF x.n x.y 3 = (0 : Int))∧True)∧∀ (g : Nat), g≤(1 : Nat)→(decide ((↑g : Int) < (5 : Int)) = true→∃ (x : YdIn), ((True∧True∧(1 : Nat) = x.n∧∀ (i : Nat), i < (1 : Nat)→((((True∧cask0 i 0 = x.y i 0)∧cask0 i 1 = x.y i 1)∧cask0 i 2 = x.y i 2)∧cask0 i 3 = x.y i 3)∧cask0 i 4 = x.y i 4)∧True)∧x.n < (4611686018427387904 : Nat)∧∃ (x_1 : LdIn), ((True∧True∧(1 : Nat) = x_1.n∧∀ (i : Nat), i < (1 : Nat)→((((True∧cask0 i 0 = x_1.y i 0)∧cask0 i 1 = x_1.y i 1)∧cask0 i 2 = x_1.y i 2)∧cask0 i 3 = x_1.y i 3)∧cask0 i 4 = x_1.y i 4)∧(True∧(((True∧True∧(9 : Int) - (3 : Int) * (↑g : Int) = x_1.l 0)∧True∧(0 : Int) = x_1.l 1)∧True∧(0 : Int) = x_1.l 2)∧True∧(0 : Int) = x_1.l 3)∧(True∧(↑g : Int) = x_1.m)∧(True∧True∧True∧True∧True∧True∧True∧True∧True∧x.n = x_1.n∧∀ (i : Nat), i < x.n→((((True∧x.y i 0 = x_1.y i 0)∧x.y i 1 = x_1.y i 1)∧x.y i 2 = x_1.y i 2)∧x.y i 3 = x_1.y i 3)∧x.y i 4 = x_1.y i 4)∧True)∧x_1.ok (lkM x_1)∧(decide ((0 : Int)≤dryI x_1.y x_1.l (lkM x_1) x_1.n) = true→(True∧dryI x_1.y x_1.l (lkM x_1) x_1.n = (0 : Int))∧(True∧(↑g : Int) = (1 : Int))∧(True∧(0 : Int) = (0 : Int))∧True)∧(decide ((0 : Int)≤dryI x_1.y x_1.l (lkM x_1) x_1.n) = false→inRange IntKind.i64 ((↑g : Int) + (1 : Int))∧∃ (g' : Nat), g'≤(1 : Nat)∧(2 : Nat) - g' < (2 : Nat) - g∧True∧((True∧(↑g : Int) + (1 : Int) = (↑g' : Int))∧True)∧(True∧(((True∧True∧lvI x_1.l (lkM x_1) x_1.n 0 = (9 : Int) - (3 : Int) * (↑g' : Int))∧True∧lvI x_1.l (lkM x_1) x_1.n 1 = (0 : Int))∧True∧lvI x_1.l (lkM x_1) x_1.n 2 = (0 : Int))∧True∧lvI x_1.l (lkM x_1) x_1.n 3 = (0 : Int))∧True))∧(decide ((↑g : Int) < (5 : Int)) = false→(True∧(0 : Int) = (0 : Int))∧(True∧(0 : Int) = (1 : Int))∧(True∧(4 : Int) = (0 : Int))∧True)))) (by kernel_rfl) ?_
 simp only [true_and, and_true, inR, Prod.exists, Prod.forall, and_assoc, exists_and_left, exists_eq_left', exists_eq_left, forall_eq, exists_const, forall_const, loopN, loopM, fa2, fas, fas2, dup1, dup2, dup3, dup4, ite_true, exhs, exhn, exhz, exho, exA, ex1, ex2, ex3, ex4, ex5, beqI, bneI, decide_true, Bool.true_and, decide_eq_true_eq, decide_eq_false_iff_not, ne_eq, Decidable.not_not]
 refine exYd ⟨by decide, fun h => absurd (by rw [if_pos yd0]) h, fun _ => ⟨fun h => absurd h (by decide), fun _ => exYd ⟨by decide, ⟨0, by decide, rfl, rfl, rfl, rfl, rfl⟩, fun g hg => ⟨fun _ => exYd ⟨by decide, exLd (l := fun j => if j = 0 then 9 - 3 * (g : Int) else 0) ⟨ld0 (by omega) (by omega), ?_⟩⟩, fun h => by omega⟩⟩⟩⟩
 match g, hg with
 | 0, _ => exact ⟨fun h => absurd h (by decide), fun _ => ⟨by decide, by decide, 1, by decide, by decide, by decide, by decide, by decide, by decide, by decide⟩⟩
 | 1, _ => exact ⟨fun _ => ⟨by decide, by decide⟩, fun h => absurd (by decide) h⟩
def TIa : List (Nat × Sig) := (28, s28) :: TI2
theorem TIa_ok : SigsOk Try.prog E0 TIa := TI2_ok.cons (runs 28 (by kernel_rfl)) fun x _ => q28s x
end Go.Proofs.Ytpigkgoooekcgaa
namespace Go.Proofs.Ytpigkgoooekcgaa
open Go Go.Sx Bm
set_option maxRecDepth 100000
set_option maxHeartbeats 4000000
theorem SigsOk.app {P : Program} {E : Env} {l m : List (Nat × Sig)} (h : SigsOk P E l) (h2 : SigsOk P E m) : SigsOk P E (l ++ m) :=
 ⟨fun f s hm => (List.mem_append.1 hm).elim (h.all f s) (h2.all f s)⟩
def sTo : Sig := ⟨Int × Int, fun x => [intC x.1, intC x.2], fun _ => True, fun x => [.v (spanTV x.1 x.2)]⟩
theorem q12 (x : sTo.α) : CallQ Try.prog E0 12 (sTo.arg x) (sTo.res x) := by
 refine bare_say E0_ok [] SigsOk.nil [] EvensOk.nil runs {} (fuel := 5) ?_
 refine of_red (q := True∧(True∧True∧x.fst = x.fst)∧True∧x.snd = x.snd) (by kernel_rfl) ?_
 simp only [true_and, and_true, inR, Prod.exists, Prod.forall, and_assoc, exists_and_left, exists_eq_left', exists_eq_left, forall_eq, exists_const, forall_const, loopN, loopM, fa2, fas, fas2, dup1, dup2, dup3, dup4, ite_true, exhs, exhn, exhz, exho, exA, ex1, ex2, ex3, ex4, ex5, beqI, bneI, decide_true, Bool.true_and, decide_eq_true_eq, decide_eq_false_iff_not, ne_eq, Decidable.not_not]
 first | trivial | exact ⟨rfl, rfl⟩ | (simp; done) | skip
structure TwoL where
 n : Nat
 f : Nat → Int
 m : Nat
 g : Nat → Int
def sameB (n : Nat) (f : Nat → Int) (m : Nat) (g : Nat → Int) : Bool := decide (n = m) && allB n (fun i => decide (f i = g i))
def sSame : Sig := ⟨TwoL, fun x => [.c (intsCV x.n x.f), .c (intsCV x.m x.g)], fun x => x.n < 4611686018427387904 ∧ x.m < 4611686018427387904, fun x => [.v (.c (.bool (sameB x.n x.f x.m x.g)))]⟩
def aSame (n : Nat) (f g : Nat → Int) : Ann := { G := Nat, ok := fun _ i => i ≤ n ∧ allB i (fun i => decide (f i = g i)) = true, dom := fun _ => [], tm := fun _ i => [(5, .t (intC i))], hp := fun _ _ => [], mu := fun _ i => n - i }
theorem q23 (x : sSame.α) (h : sSame.pre x) : CallQ Try.prog E0 23 (sSame.arg x) (sSame.res x) := by
 obtain ⟨n, f, m, g⟩ := x
 refine bare_say E0_ok [] SigsOk.nil [] EvensOk.nil runs { l := [(23, 4, aSame n f g)] } (fuel := 5) ?_
 refine of_red (q := (((↑n : Int) != (↑m : Int)) = true→True∧sameB n f m g = false)∧(((↑n : Int) != (↑m : Int)) = false→(∃ (g_1 : Nat), (g_1≤n∧(allB g_1 fun (i : Nat) => decide (f i = g i)) = true)∧True∧((True∧(0 : Int) = (↑g_1 : Int))∧True)∧True)∧∀ (g_1 : Nat), g_1≤n∧(allB g_1 fun (i : Nat) => decide (f i = g i)) = true→(decide ((↑g_1 : Int) < (↑n : Int)) = true→(0 : Int)≤(↑g_1 : Int)∧(↑g_1 : Int) < (↑n : Int)∧(0 : Int)≤(↑g_1 : Int)∧(↑g_1 : Int) < (↑m : Int)∧((f g_1 != g g_1) = true→True∧sameB n f m g = false)∧((f g_1 != g g_1) = false→inRange IntKind.i64 ((↑g_1 : Int) + (1 : Int))∧∃ (g' : Nat), (g'≤n∧(allB g' fun (i : Nat) => decide (f i = g i)) = true)∧n - g' < n - g_1∧True∧((True∧(↑g_1 : Int) + (1 : Int) = (↑g' : Int))∧True)∧True))∧(decide ((↑g_1 : Int) < (↑n : Int)) = false→True∧sameB n f m g = true))) (by kernel_rfl) ?_
 simp only [true_and, and_true, inR, Prod.exists, Prod.forall, and_assoc, exists_and_left, exists_eq_left', exists_eq_left, forall_eq, exists_const, forall_const, loopN, loopM, fa2, fas, fas2, dup1, dup2, dup3, dup4, ite_true, exhs, exhn, exhz, exho, exA, ex1, ex2, ex3, ex4, ex5, beqI, bneI, decide_true, Bool.true_and, decide_eq_true_eq, decide_eq_false_iff_not, ne_eq, Decidable.not_not]
 obtain ⟨h1, h2⟩ : n < 4611686018427387904 ∧ m < 4611686018427387904 := h
 refine ⟨fun e => by unfold sameB; rw [decide_eq_false (by omega)]; rfl, fun e => ?_⟩
 have e : n = m := by omega
 have e0 : decide (n = m) = true := decide_eq_true e
 refine ⟨Nat.zero_le _, rfl, fun i hi ha => ⟨by omega, by omega, by omega, by omega, fun c => ?_, fun c => ⟨by omega, by omega, by omega, ?_, by omega⟩⟩, fun ha => ?_⟩
 · unfold sameB
   rw [allB_no hi (decide_eq_false c), Bool.and_false]
 · show (allB i (fun i => decide (f i = g i)) && decide (f i = g i)) = true
   rw [ha, decide_eq_true c]; rfl
 · unfold sameB
   rw [e0, ha]; rfl
def sMod : Sig := ⟨Int × Int, fun x => [intC x.1, intC x.2], fun x => 0 < x.2 ∧ x.2 ≤ 4611686018427387904, fun x => [.v (intC (x.1 % x.2))]⟩
theorem q9 (x : sMod.α) (h : sMod.pre x) : CallQ Try.prog E0 9 (sMod.arg x) (sMod.res x) := by
 obtain ⟨a, b⟩ := x
 refine bare_say E0_ok [] SigsOk.nil [] EvensOk.nil runs {} (fuel := 5) ?_
 refine of_red (q := b ≠ (0 : Int)∧(decide (a.tmod b < (0 : Int)) = true→inRange IntKind.i64 (a.tmod b + b)∧True∧a.tmod b + b = a % b)∧(decide (a.tmod b < (0 : Int)) = false→True∧a.tmod b = a % b)) (by kernel_rfl) ?_
 simp only [true_and, and_true, inR, Prod.exists, Prod.forall, and_assoc, exists_and_left, exists_eq_left', exists_eq_left, forall_eq, exists_const, forall_const, loopN, loopM, fa2, fas, fas2, dup1, dup2, dup3, dup4, ite_true, exhs, exhn, exhz, exho, exA, ex1, ex2, ex3, ex4, ex5, beqI, bneI, decide_true, Bool.true_and, decide_eq_true_eq, decide_eq_false_iff_not, ne_eq, Decidable.not_not]
 obtain ⟨h1, h2⟩ : 0 < b ∧ b ≤ 4611686018427387904 := h
 have e0 := Int.tmod_eq_emod (a := a) (b := b)
 have b1 := Int.emod_nonneg a (show b ≠ 0 by omega)
 have b2 := Int.emod_lt_of_pos a (show 0 < b by omega)
 have n1 : ((b.natAbs : Nat) : Int) = b := by omega
 rw [e0]
 split <;> (try rw [n1]) <;> exact ⟨by omega, fun h => ⟨by omega, by omega, by omega⟩, fun h => by omega⟩
def TJ0 : List (Nat × Sig) := (9, sMod) :: (23, sSame) :: (12, sTo) :: (TIa ++ ((14, sKeeps) :: (13, sGrade) :: TG1))
theorem TJ0_ok : SigsOk Try.prog E0 TJ0 := (((SigsOk.app TIa_ok ((TG1_ok.cons (runs 13 (by kernel_rfl)) q13).cons (runs 14 (by kernel_rfl)) fun x _ => q14 x)).cons (runs 12 (by kernel_rfl)) fun x _ => q12 x).cons (runs 23 (by kernel_rfl)) q23).cons (runs 9 (by kernel_rfl)) q9
def sYes : Sig := ⟨Unit, fun _ => [], fun _ => True, fun _ => [.v (.c (.bool true))]⟩
def chS (i j : Nat) : Int := (([[1, 3], [2, 5], [4, 6]] : List (List Int)).getD i []).getD j 0
theorem q7 (x : sYes.α) : CallQ Try.prog E0 7 (sYes.arg x) (sYes.res x) := by
 refine bare_say E0_ok TJ0 TJ0_ok [] EvensOk.nil runs {} (fuel := 5) ?_
 refine of_red (q := ∃ (x : Int × Int), ((True∧(1 : Int) = x.fst)∧(True∧(3 : Int) = x.snd)∧True)∧True∧∃ (x_1 : Unit), ((True∧True∧(1 : Nat) = (1 : Nat)∧∀ (i : Nat), i < (1 : Nat)→((((True∧(if i = (0 : Nat) then (9 : Int) else (0 : Int)) = cask0 i 0)∧(if i = (0 : Nat) then (9 : Int) else (0 : Int)) = cask0 i 1)∧(if i = (0 : Nat) then (5 : Int) else (0 : Int)) = cask0 i 2)∧(if i = (0 : Nat) then x.fst else (0 : Int)) = cask0 i 3)∧(if i = (0 : Nat) then x.snd else (0 : Int)) = cask0 i 4)∧(True∧(5 : Int) = (5 : Int))∧True)∧True∧∃ (x : Int × Int), ((True∧(1 : Int) = x.fst)∧(True∧(3 : Int) = x.snd)∧True)∧True∧∃ (x_2 : Int × Int), ((True∧(2 : Int) = x_2.fst)∧(True∧(5 : Int) = x_2.snd)∧True)∧True∧∃ (x_3 : Int × Int), ((True∧(4 : Int) = x_3.fst)∧(True∧(6 : Int) = x_3.snd)∧True)∧True∧∃ (x_4 : SpsIn), ((True∧True∧(3 : Nat) = x_4.n∧∀ (i : Nat), i < (3 : Nat)→(True∧(if i = (2 : Nat) then x_3.fst else if i = (1 : Nat) then x_2.fst else if i = (0 : Nat) then x.fst else (0 : Int)) = x_4.s i 0)∧(if i = (2 : Nat) then x_3.snd else if i = (1 : Nat) then x_2.snd else if i = (0 : Nat) then x.snd else (0 : Int)) = x_4.s i 1)∧True)∧x_4.n < (4611686018427387904 : Nat)∧∃ (x : Int × Int × Int × Int), ((True∧(4 : Int) = x.fst)∧(True∧(2 : Int) = x.snd.fst)∧(True∧(True∧True∧(2 : Int) = x.snd.snd.fst)∧True∧(0 : Int) = x.snd.snd.snd)∧True)∧True∧(((0 : Int) == (0 : Int)) = true→(((if loadsOk x_4.n x_4.s = true then (0 : Int) else (43 : Int)) == (0 : Int)) = true→((oddsE x.fst x.snd.fst x.snd.snd.fst x.snd.snd.snd == (0 : Int)) = true→(((0 : Int) == (0 : Int)) = true→(((1 : Int) == (1 : Int)) = true→∃ (x_5 : TwoL), ((True∧True∧lotsN x_4.n x_4.s = x_5.n∧∀ (i : Nat), i < lotsN x_4.n x_4.s→True∧(lotsL x_4.s x_4.n).getD i (0 : Int) = x_5.f i)∧(True∧True∧(2 : Nat) = x_5.m∧∀ (i : Nat), i < (2 : Nat)→True∧(if i = (1 : Nat) then (2 : Int) else if i = (0 : Nat) then (0 : Int) else (0 : Int)) = x_5.g i)∧True)∧(x_5.n < (4611686018427387904 : Nat)∧x_5.m < (4611686018427387904 : Nat))∧(sameB x_5.n x_5.f x_5.m x_5.g = true→True∧(oddsOf x.fst x.snd.fst x.snd.snd.fst x.snd.snd.snd == (1 : Int) && (oddsIn x.fst x.snd.fst x.snd.snd.fst x.snd.snd.snd == (6 : Int) && true)) = true)∧(sameB x_5.n x_5.f x_5.m x_5.g = false→True∧true = false))∧(((1 : Int) == (1 : Int)) = false→True∧true = false))∧(((0 : Int) == (0 : Int)) = false→True∧true = false))∧((oddsE x.fst x.snd.fst x.snd.snd.fst x.snd.snd.snd == (0 : Int)) = false→True∧true = false))∧(((if loadsOk x_4.n x_4.s = true then (0 : Int) else (43 : Int)) == (0 : Int)) = false→True∧true = false))∧(((0 : Int) == (0 : Int)) = false→True∧true = false)) (by kernel_rfl) ?_
 simp only [true_and, and_true, inR, Prod.exists, Prod.forall, and_assoc, exists_and_left, exists_eq_left', exists_eq_left, forall_eq, exists_const, forall_const, loopN, loopM, fa2, fas, fas2, dup1, dup2, dup3, dup4, ite_true, exhs, exhn, exhz, exho, exA, ex1, ex2, ex3, ex4, ex5, beqI, bneI, decide_true, Bool.true_and, decide_eq_true_eq, decide_eq_false_iff_not, ne_eq, Decidable.not_not]
 refine ⟨fun i hi => ?_, ⟨3, chS⟩, rfl, fun i hi => ?_, by decide, fun _ => ⟨fun _ => ⟨⟨⟨_, _, 2, fun i => if i = 1 then 2 else if i = 0 then 0 else 0⟩, rfl, fun _ _ => rfl, rfl, fun _ _ => rfl, by decide, by decide, fun _ => by decide +kernel, fun h => absurd h (by decide +kernel)⟩, ⟨fun h => Bool.noConfusion h, fun h => Bool.noConfusion h⟩⟩, fun h => absurd (by decide +kernel) h⟩, ⟨fun h => absurd (by decide) h, fun h => Bool.noConfusion h⟩⟩
 · obtain rfl : i = 0 := by omega
   exact ⟨rfl, rfl, rfl, rfl, rfl⟩
 · match i, hi with
   | 0, _ => exact ⟨rfl, rfl⟩
   | 1, _ => exact ⟨rfl, rfl⟩
   | 2, _ => exact ⟨rfl, rfl⟩
end Go.Proofs.Ytpigkgoooekcgaa
namespace Bm
open Go Go.Sx
end Bm
namespace Go.Proofs.Ytpigkgoooekcgaa
open Go Go.Sx Bm
set_option maxRecDepth 100000
set_option maxHeartbeats 4000000
def tmI (v : AV) : Int := match v with | .t (.c (.int _ n)) => n | _ => 0
def TK : List (Nat × Sig) := (15, sPro) :: (7, sYes) :: TJ0
theorem TK_ok : SigsOk Try.prog E0 TK := (TJ0_ok.cons (runs 7 (by kernel_rfl)) fun x _ => q7 x).cons (runs 15 (by kernel_rfl)) q15
end Go.Proofs.Ytpigkgoooekcgaa
namespace Bm
open Go Go.Sx
end Bm
namespace Bm
open Go Go.Sx
def pkMk (l : Int) (_ j : Nat) : Int := if j = 4 then l else if j = 5 then 1000 else 0
def pkBar (f : Nat → Int) (k j : Nat) : Int := if j = 2 then f k else 0
def strR (j : Nat) : Int := if j = 0 then 0 else if j = 4 then 0 else 1
theorem str_ok {N : Nat} (h : 1 ≤ N) : ruleOk N strR = true := by
 have e0 : strR 0 = 0 := rfl
 have e3 : strR 3 = 1 := rfl
 have e1 : oddsOk (strR 1) (strR 2) = true := by decide
 have e2 : oddsOk (strR 4) (strR 5) = true := by decide
 unfold ruleOk
 rw [e0, e3, e1, e2, decide_eq_true (show (1 : Int) ≤ N by omega)]
 rfl
theorem str_no {N a : Nat} (h : 1 ≤ N) (ha : 1 ≤ a) (hn : a ≤ N) : keeps N N a strR = false := by
 refine allB_not (i := 1) (by omega) ?_
 cases e : keep1 N N a strR 1 with
 | false => rfl
 | true =>
   have h2 := keep1_iff.1 e
   refine absurd (.inr ⟨?_, ?_⟩) h2
   · show (1 : Int) ≤ ((1 : Nat) : Int); omega
   · rw [F_top h hn, if_pos ha, ch_self]
     show (0 : Int) * ((1 : Nat) : Int) < ((1 : Nat) : Int) * 1
     omega
theorem str_alw {N : Nat} (h : 1 ≤ N) : ∀ {k : Nat}, k ≤ N → alw N N strR (k + 1) = 0
 | 0, _ => by
   unfold alw
   have := keeps_top (str_ok h)
   rw [show (strR 0).toNat = 0 from rfl] at this
   rw [if_pos this]; rfl
 | k + 1, hk => by
   rw [alw, if_neg (by rw [str_no h (by omega) hk]; decide)]
   exact str_alw h (by omega)
theorem pk_marks {l : Int} (h0 : 0 ≤ l) (h1 : l ≤ 1000) : marksOk 1 (pkMk l) = true := by
 unfold marksOk
 rw [Bool.and_eq_true, allB_iff]
 refine ⟨by decide, fun i hi => ?_⟩
 unfold markOk
 rw [allB_iff]
 intro q hq
 unfold spanOk pkMk
 match q, hq with
 | 0, _ => simp
 | 1, _ => simp
 | 2, _ => simp [h0, h1]
 | 3, _ => simp
theorem pk_bar {f : Nat → Int} {k : Nat} (h0 : 0 ≤ f k) (h1 : f k ≤ 1000) : barOk (pkBar f k) = true := by
 unfold barOk
 rw [allB_iff]
 intro q hq
 rw [within_iff]
 unfold pkBar
 split <;> omega
theorem pk_reach {l : Int} {f : Nat → Int} {i k : Nat} (h1 : f k ≤ 1000) (h : l ≤ f k) : reach (pkMk l i) (pkBar f k) = true := by
 unfold reach
 rw [allB_iff]
 intro q hq
 rw [within_iff]
 unfold pkMk pkBar
 match q, hq with
 | 0, _ => simp
 | 1, _ => simp
 | 2, _ => simp [h, h1]
 | 3, _ => simp
theorem pk_below {l : Int} {f : Nat → Int} {i k : Nat} (h : f k < l) : reach (pkMk l i) (pkBar f k) = false := by
 unfold reach
 refine allB_not (i := 2) (by decide) ?_
 unfold within pkMk pkBar
 simp
 omega
theorem pk_cnt {l : Int} {f : Nat → Int} : ∀ {n : Nat}, (∀ k, k < n → f k ≤ 1000 ∧ l ≤ f k) → cnt (pkMk l 0) (pkBar f) n = 0
 | 0, _ => rfl
 | k + 1, h => by rw [cnt, pk_cnt fun i hi => h i (by omega), if_pos (pk_reach (h k (by omega)).1 (h k (by omega)).2)]
theorem pk_pro {l : Int} (h0 : 0 ≤ l) (h1 : l ≤ 1000) {N : Nat} (n1 : 1 ≤ N) (n2 : N ≤ 40) {f : Nat → Int} (hf : ∀ k, k < N → 0 ≤ f k ∧ f k ≤ 1000 ∧ l ≤ f k) : prW ⟨1, pkMk l, N, strR, N, pkBar f⟩ = 0 ∧ prA ⟨1, pkMk l, N, strR, N, pkBar f⟩ = 0 ∧ prE ⟨1, pkMk l, N, strR, N, pkBar f⟩ = 0 := by
 have ea : prAl ⟨1, pkMk l, N, strR, N, pkBar f⟩ = 0 := by
   show alw ((N : Int)).toNat N strR (N + 1) = 0
   rw [show ((N : Int)).toNat = N by omega]
   exact str_alw n1 (Nat.le_refl N)
 have h := pr_0 (x := ⟨1, pkMk l, N, strR, N, pkBar f⟩) (pk_marks h0 h1) (within_iff.2 ⟨by show (1 : Int) ≤ N; omega, by show (N : Int) ≤ 40; omega⟩) (str_ok n1) (by
   unfold prOk
   rw [Bool.and_eq_true, allB_iff]
   exact ⟨decide_eq_true (Int.le_refl _), fun k hk => pk_bar (hf k hk).1 (hf k hk).2.1⟩) (i := 0) (show 0 < 1 by decide) (fun k hk => absurd hk (Nat.not_lt_zero k)) (by
   rw [ea]
   show ((cnt (pkMk l 0) (pkBar f) N : Nat) : Int) ≤ 0
   rw [pk_cnt fun k hk => (hf k hk).2]
   exact Int.le_refl 0)
 exact ⟨h.1.symm, by rw [← h.2.1, ea], h.2.2.symm⟩
theorem pk_not {l : Int} (h0 : 0 ≤ l) (h1 : l ≤ 1000) {N : Nat} (n2 : N + 1 ≤ 40) {f : Nat → Int} (hf : ∀ k, k < N → 0 ≤ f k ∧ f k ≤ 1000 ∧ l ≤ f k) (hN : 0 ≤ f N) (hl : f N < l) : prE ⟨1, pkMk l, (N : Int) + 1, strR, N + 1, pkBar f⟩ = 4 := by
 have eN : (N : Int) + 1 = ((N + 1 : Nat) : Int) := by omega
 rw [eN]
 have ea : prAl ⟨1, pkMk l, ((N + 1 : Nat) : Int), strR, N + 1, pkBar f⟩ = 0 := by
   show alw (((N + 1 : Nat) : Int)).toNat (N + 1) strR (N + 1 + 1) = 0
   rw [show (((N + 1 : Nat) : Int)).toNat = N + 1 by omega]
   exact str_alw (by omega) (Nat.le_refl (N + 1))
 have h := pr_4 (x := ⟨1, pkMk l, ((N + 1 : Nat) : Int), strR, N + 1, pkBar f⟩) (pk_marks h0 h1) (within_iff.2 ⟨by show (1 : Int) ≤ ((N + 1 : Nat) : Int); omega, by show ((N + 1 : Nat) : Int) ≤ 40; omega⟩) (str_ok (by omega)) (by
   unfold prOk
   rw [Bool.and_eq_true, allB_iff]
   refine ⟨decide_eq_true (Int.le_refl _), fun k hk => ?_⟩
   by_cases e : k = N
   · subst e; exact pk_bar hN (by omega)
   · have hk : k < N + 1 := hk
     exact pk_bar (hf k (by omega)).1 (hf k (by omega)).2.1) (fun i hi => by
   have hi : i < 1 := hi
   obtain rfl : i = 0 := by omega
   rw [ea]
   show ¬ ((cnt (pkMk l 0) (pkBar f) (N + 1) : Nat) : Int) ≤ 0
   rw [cnt, pk_below hl, if_neg (by decide)]
   omega)
 exact h.2.2.symm
end Bm
namespace Go.Proofs.Ytpigkgoooekcgaa
open Go Go.Sx Bm
def runL (n : Nat) (y : Nat → Nat → Int) (p : Nat → Int) (lk : Nat → Nat → Int) : Nat → Nat → Int
 | 0 => begF n y
 | m + 1 => fun j => if p m = (j : Nat) then y j 1 else lvI (runL n y p lk m) (lk m) n j
def mostY (y : Nat → Nat → Int) (_ i : Nat) : Int := y i 4
structure Kpt (n : Nat) (y : Nat → Nat → Int) (p : Nat → Int) (M : Nat) : Prop where
 top : ∀ m, m < M → 0 ≤ p m ∧ p m < n
 wet : ∀ m, m < M → ∀ i, i < n → y i 2 ≤ imax 0 (runL n y p (mostY y) m i - y i 4)
structure Yd (n : Nat) (y : Nat → Nat → Int) : Prop where
 n1 : 1 ≤ n
 n4 : n ≤ 4
 at_ : ∀ i, i < n → 1 ≤ y i 1 ∧ y i 1 ≤ 1000 ∧ 0 ≤ y i 0 ∧ y i 0 ≤ y i 1 ∧ 0 ≤ y i 2 ∧ y i 2 ≤ y i 1 ∧ 0 ≤ y i 3 ∧ y i 3 ≤ y i 4 ∧ y i 4 ≤ 1000
theorem yd_of {n : Nat} {y : Nat → Nat → Int} (h : yardOk n y = true) : Yd n y := by
 unfold yardOk at h
 rw [Bool.and_eq_true, Bm.within_iff, allB_iff] at h
 obtain ⟨⟨h1, h2⟩, h3⟩ := h
 refine ⟨by omega, by omega, fun i hi => ?_⟩
 have := h3 i hi
 unfold caskOk at this
 simp only [Bool.and_eq_true, Bm.within_iff, decide_eq_true_eq] at this
 omega
theorem imax_mono {a b c : Int} (h : b ≤ c) : imax a b ≤ imax a c := by
 have h1 := imax_cases (a := a) (b := b)
 have h2 := imax_ge (a := a) (b := c)
 have h3 := imax_ge (a := a) (b := b)
 rcases h1 with e | e <;> omega
theorem dry_bd {y : Nat → Nat → Int} {l lk : Nat → Int} : ∀ {n : Nat}, -1 ≤ dryI y l lk n ∧ dryI y l lk n < n
 | 0 => by unfold dryI; omega
 | n + 1 => by
   have := dry_bd (y := y) (l := l) (lk := lk) (n := n)
   unfold dryI
   split <;> omega
theorem dry_iff {y : Nat → Nat → Int} {l lk : Nat → Int} : ∀ {n : Nat}, dryI y l lk n < 0 ↔ ∀ i, i < n → y i 2 ≤ imax 0 (l i - lk i)
 | 0 => ⟨fun _ i hi => absurd hi (Nat.not_lt_zero i), fun _ => by unfold dryI; omega⟩
 | n + 1 => by
   have ih := dry_iff (y := y) (l := l) (lk := lk) (n := n)
   unfold dryI
   constructor
   · intro h i hi
     split at h
     · omega
     · rename_i c
       by_cases e : i = n
       · subst e
         by_cases q : imax 0 (l i - lk i) < y i 2
         · exact absurd ⟨q, h⟩ c
         · omega
       · exact ih.1 h i (by omega)
   · intro h
     rw [if_neg fun c => by have := h n (by omega); omega]
     exact ih.2 fun i hi => h i (by omega)
theorem runL_bd {n : Nat} {y : Nat → Nat → Int} (Y : Yd n y) {p : Nat → Int} {lk : Nat → Nat → Int} : ∀ {m : Nat}, (∀ k, k < m → ∀ i, i < n → 0 ≤ lk k i) → ∀ i, i < n → 0 ≤ runL n y p lk m i ∧ runL n y p lk m i ≤ y i 1
 | 0, _, i, hi => by
   have := Y.at_ i hi
   show 0 ≤ begF n y i ∧ begF n y i ≤ y i 1
   unfold begF
   rw [if_pos hi]; omega
 | m + 1, h, i, hi => by
   have y0 := Y.at_ i hi
   have ih := runL_bd Y (p := p) (lk := lk) (m := m) (fun k hk => h k (by omega)) i hi
   have hk := h m (by omega) i hi
   show 0 ≤ (if p m = (i : Nat) then y i 1 else lvI (runL n y p lk m) (lk m) n i) ∧ _ ≤ y i 1
   have e1 : runL n y p lk (m + 1) i = if p m = (i : Nat) then y i 1 else lvI (runL n y p lk m) (lk m) n i := rfl
   rw [e1]
   split
   · omega
   · unfold lvI
     rw [if_pos hi]
     have c1 := imax_ge (a := 0) (b := runL n y p lk m i - lk m i)
     have c2 := imax_cases (a := 0) (b := runL n y p lk m i - lk m i)
     rcases c2 with e | e <;> omega
theorem runL_mono {n : Nat} {y : Nat → Nat → Int} {p : Nat → Int} {lk : Nat → Nat → Int} : ∀ {m : Nat}, (∀ k, k < m → ∀ i, i < n → lk k i ≤ y i 4) → ∀ i, i < n → runL n y p (mostY y) m i ≤ runL n y p lk m i
 | 0, _, i, hi => Int.le_refl _
 | m + 1, h, i, hi => by
   have ih := runL_mono (p := p) (lk := lk) (m := m) (fun k hk => h k (by omega)) i hi
   have hk := h m (by omega) i hi
   have e1 : runL n y p lk (m + 1) i = if p m = (i : Nat) then y i 1 else lvI (runL n y p lk m) (lk m) n i := rfl
   have e2 : runL n y p (mostY y) (m + 1) i = if p m = (i : Nat) then y i 1 else lvI (runL n y p (mostY y) m) (mostY y m) n i := rfl
   rw [e1, e2]
   split
   · exact Int.le_refl _
   · unfold lvI
     rw [if_pos hi, if_pos hi]
     refine imax_mono ?_
     show runL n y p (mostY y) m i - y i 4 ≤ _
     omega
theorem runL_off {n : Nat} {y : Nat → Nat → Int} {p : Nat → Int} {lk : Nat → Nat → Int} {j : Nat} (hj : n ≤ j) : ∀ {m : Nat}, (∀ k, k < m → p k < n) → runL n y p lk m j = 0
 | 0, _ => by
   show begF n y j = 0
   unfold begF
   rw [if_neg (by omega)]
 | m + 1, h => by
   have e1 : runL n y p lk (m + 1) j = if p m = (j : Nat) then y j 1 else lvI (runL n y p lk m) (lk m) n j := rfl
   have := h m (by omega)
   rw [e1, if_neg (by omega)]
   unfold lvI
   rw [if_neg (by omega)]
   exact runL_off hj fun k hk => h k (by omega)
theorem runL_cg {n : Nat} {y : Nat → Nat → Int} {p q : Nat → Int} {lk : Nat → Nat → Int} : ∀ {m : Nat}, (∀ k, k < m → p k = q k) → runL n y p lk m = runL n y q lk m
 | 0, _ => rfl
 | m + 1, h => by
   have ih := runL_cg (n := n) (y := y) (p := p) (q := q) (lk := lk) (m := m) fun k hk => h k (by omega)
   funext j
   show (if p m = (j : Nat) then y j 1 else lvI (runL n y p lk m) (lk m) n j) = if q m = (j : Nat) then y j 1 else lvI (runL n y q lk m) (lk m) n j
   rw [h m (by omega), ih]
theorem Kpt.cg {n : Nat} {y : Nat → Nat → Int} {p q : Nat → Int} {M : Nat} (K : Kpt n y p M) (h : ∀ k, k < M → p k = q k) : Kpt n y q M :=
 ⟨fun m hm => by rw [← h m hm]; exact K.top m hm, fun m hm i hi => by rw [← runL_cg fun k hk => h k (by omega)]; exact K.wet m hm i hi⟩
theorem Kpt.zero {n : Nat} {y : Nat → Nat → Int} {p : Nat → Int} : Kpt n y p 0 := ⟨fun m h => absurd h (Nat.not_lt_zero m), fun m h => absurd h (Nat.not_lt_zero m)⟩
def snoc (p : Nat → Int) (m : Nat) (t : Int) (k : Nat) : Int := if k < m then p k else t
theorem Kpt.succ {n : Nat} {y : Nat → Nat → Int} {p : Nat → Int} {m : Nat} (K : Kpt n y p m) (hd : dryI y (runL n y p (mostY y) m) (mostY y m) n < 0) {t : Nat} (ht : t < n) : Kpt n y (snoc p m t) (m + 1) := by
 have K2 : Kpt n y (snoc p m t) m := K.cg fun k hk => (if_pos hk).symm
 have e : snoc p m t m = (t : Int) := if_neg (Nat.lt_irrefl m)
 refine ⟨fun k hk => ?_, fun k hk i hi => ?_⟩
 · by_cases q : k = m
   · subst q; rw [e]; omega
   · exact K2.top k (by omega)
 · by_cases q : k = m
   · subst q
     rw [runL_cg (p := snoc p k t) (q := p) (m := k) fun j hj => if_pos hj]
     exact dry_iff.1 hd i hi
   · exact K2.wet k (by omega) i hi
theorem runL_snoc {n : Nat} {y : Nat → Nat → Int} {p : Nat → Int} {lk : Nat → Nat → Int} {m t : Nat} {j : Nat} : runL n y (snoc p m t) lk (m + 1) j = if j = t then y j 1 else lvI (runL n y p lk m) (lk m) n j := by
 have e : snoc p m t m = (t : Int) := if_neg (Nat.lt_irrefl m)
 show (if snoc p m t m = (j : Nat) then y j 1 else lvI (runL n y (snoc p m t) lk m) (lk m) n j) = _
 rw [e, runL_cg (p := snoc p m t) (q := p) (m := m) fun k hk => if_pos hk]
 by_cases c : j = t
 · subst c; rw [if_pos rfl, if_pos rfl]
 · rw [if_neg (by omega), if_neg c]
theorem Kpt.run {n : Nat} {y : Nat → Nat → Int} {p : Nat → Int} {M : Nat} (K : Kpt n y p M) {lk : Nat → Nat → Int} (hl : ∀ k, k < M → ∀ i, i < n → lk k i ≤ y i 4) {m : Nat} (hm : m < M) : dryI y (runL n y p lk m) (lk m) n = -1 := by
 have h : dryI y (runL n y p lk m) (lk m) n < 0 := dry_iff.2 fun i hi => by
   have h1 := K.wet m hm i hi
   have h2 := runL_mono (p := p) (lk := lk) (m := m) (fun k hk => hl k (by omega)) i hi
   have h3 := hl m hm i hi
   have h4 := imax_mono (a := 0) (b := runL n y p (mostY y) m i - y i 4) (c := runL n y p lk m i - lk m i) (by omega)
   omega
 have := dry_bd (y := y) (l := runL n y p lk m) (lk := lk m) (n := n)
 omega
theorem Kpt.last {n : Nat} {y : Nat → Nat → Int} (Y : Yd n y) {p : Nat → Int} {M : Nat} (K : Kpt n y p M) {lk : Nat → Nat → Int} (hl : ∀ k, k < M → ∀ i, i < n → lk k i ≤ y i 4) (hM : 0 < M) {i : Nat} (hi : i < n) : y i 2 ≤ runL n y p lk M i := by
 obtain ⟨m, rfl⟩ : ∃ m, M = m + 1 := ⟨M - 1, by omega⟩
 have e1 : runL n y p lk (m + 1) i = if p m = (i : Nat) then y i 1 else lvI (runL n y p lk m) (lk m) n i := rfl
 rw [e1]
 split
 · have := Y.at_ i hi; omega
 · have h := dry_iff.1 (show dryI y (runL n y p lk m) (lk m) n < 0 by rw [K.run hl (by omega)]; omega) i hi
   unfold lvI
   rw [if_pos hi]; exact h
def lineI (f : Nat → Int) : Nat → Int
 | 0 => 1000
 | i + 1 => imin (lineI f i) (f i)
end Go.Proofs.Ytpigkgoooekcgaa
namespace Go.Proofs.Ytpigkgoooekcgaa
open Go Go.Sx Bm
set_option maxRecDepth 100000
set_option maxHeartbeats 4000000
def pk (l : Nat → Int) (n : Nat) (i : Int) : Int := if n = 0 then 0 else l (i % n).toNat
def sPick : Sig := ⟨Nat × (Nat → Int) × Int, fun x => [.c (intsCV x.1 x.2.1), intC x.2.2], fun x => x.1 < 4611686018427387904, fun x => [.v (intC (pk x.2.1 x.1 x.2.2))]⟩
theorem q18 (a : sPick.α) (ha : sPick.pre a) : CallQ Try.prog E0 18 (sPick.arg a) (sPick.res a) := by
 obtain ⟨n, l, i⟩ := a
 refine bare_say E0_ok TK TK_ok [] EvensOk.nil runs { } (fuel := 4) ?_
 refine of_red (q := (((↑n : Int) == (0 : Int)) = true→True∧(0 : Int) = pk (l, i).fst n (l, i).snd)∧(((↑n : Int) == (0 : Int)) = false→∃ (x : Int × Int), ((True∧i = x.fst)∧(True∧(↑n : Int) = x.snd)∧True)∧((0 : Int) < x.snd∧x.snd≤(4611686018427387904 : Int))∧(0 : Int)≤x.fst % x.snd∧x.fst % x.snd < (↑n : Int)∧True∧l (x.fst % x.snd).toNat = pk (l, i).fst n (l, i).snd)) (by kernel_rfl) ?_
 simp only [true_and, and_true, inR, Prod.exists, Prod.forall, and_assoc, exists_and_left, exists_eq_left', exists_eq_left, forall_eq, exists_const, forall_const, loopN, loopM, fa2, fas, fas2, dup1, dup2, dup3, dup4, ite_true, exhs, exhn, exhz, exho, exA, ex1, ex2, ex3, ex4, ex5, beqI, bneI, decide_true, Bool.true_and, decide_eq_true_eq, decide_eq_false_iff_not, ne_eq, Decidable.not_not]
 refine ⟨fun h => ?_, fun h => ⟨by omega, by have : n < 4611686018427387904 := ha; omega, Int.emod_nonneg _ h, Int.emod_lt_of_pos _ (by omega), ?_⟩⟩
 · unfold pk; rw [if_pos (by omega)]
 · unfold pk; rw [if_neg (by omega)]
def cho (lo hi n : Int) : Int := if hi ≤ lo then lo else lo + n % (hi - lo + 1)
theorem cho_in {lo hi n : Int} (h : lo ≤ hi) : lo ≤ cho lo hi n ∧ cho lo hi n ≤ hi := by
 unfold cho
 split
 · omega
 · have b1 := Int.emod_nonneg n (show hi - lo + 1 ≠ 0 by omega)
   have b2 := Int.emod_lt_of_pos n (show 0 < hi - lo + 1 by omega)
   omega
def sChos : Sig := ⟨Int × Int × Int, fun x => [intC x.1, intC x.2.1, intC x.2.2], fun x => -100000 ≤ x.1 ∧ x.1 ≤ 100000 ∧ -100000 ≤ x.2.1 ∧ x.2.1 ≤ 100000, fun x => [.v (intC (cho x.1 x.2.1 x.2.2))]⟩
theorem q17 (a : sChos.α) (ha : sChos.pre a) : CallQ Try.prog E0 17 (sChos.arg a) (sChos.res a) := by
 obtain ⟨lo, hi, n⟩ := a
 refine bare_say E0_ok TK TK_ok [] EvensOk.nil runs { } (fuel := 4) ?_
 refine of_red (q := (decide (hi≤lo) = true→True∧lo = cho lo (hi, n).fst (hi, n).snd)∧(decide (hi≤lo) = false→inRange IntKind.i64 (hi - lo)∧inRange IntKind.i64 (hi - lo + (1 : Int))∧∃ (x : Int × Int), ((True∧n = x.fst)∧(True∧hi - lo + (1 : Int) = x.snd)∧True)∧((0 : Int) < x.snd∧x.snd≤(4611686018427387904 : Int))∧inRange IntKind.i64 (lo + x.fst % x.snd)∧True∧lo + x.fst % x.snd = cho lo (hi, n).fst (hi, n).snd)) (by kernel_rfl) ?_
 simp only [true_and, and_true, inR, Prod.exists, Prod.forall, and_assoc, exists_and_left, exists_eq_left', exists_eq_left, forall_eq, exists_const, forall_const, loopN, loopM, fa2, fas, fas2, dup1, dup2, dup3, dup4, ite_true, exhs, exhn, exhz, exho, exA, ex1, ex2, ex3, ex4, ex5, beqI, bneI, decide_true, Bool.true_and, decide_eq_true_eq, decide_eq_false_iff_not, ne_eq, Decidable.not_not]
 obtain ⟨h1, h2, h3, h4⟩ := (show -100000 ≤ lo ∧ lo ≤ 100000 ∧ -100000 ≤ hi ∧ hi ≤ 100000 from ha)
 refine ⟨fun h => ?_, fun h => ?_⟩
 · unfold cho; rw [if_pos h]
 · have b1 := Int.emod_nonneg n (show hi - lo + 1 ≠ 0 by omega)
   have b2 := Int.emod_lt_of_pos n (show 0 < hi - lo + 1 by omega)
   refine ⟨by omega, by omega, by omega, by omega, by omega, by omega, by omega, by omega, ?_⟩
   unfold cho; rw [if_neg h]
def lksCV (M n : Nat) (f : Nat → Nat → Int) : CV := .vs 1 M (fun i _ => .vs 1 n (fun j _ => .int .i64 (f i j)))
def listC (M n : Nat) (f : Nat → Nat → Int) : CV := .fn 44 [] (fun _ _ => .any) 1 (fun _ => .ip 1 (fun _ => lksCV M n f))
structure L1In where
 M : Nat
 n : Nat
 f : Nat → Nat → Int
 m : Int
 b : Int
def sL1 : Sig := ⟨L1In, fun x => [intC x.m, intC x.b, .c (.ip 1 (fun _ => lksCV x.M x.n x.f))], fun x => 0 ≤ x.m ∧ x.m < x.M ∧ 0 ≤ x.b ∧ x.b < x.n, fun x => [.v (intC (x.f x.m.toNat x.b.toNat))]⟩
theorem q44 (x : sL1.α) (h : sL1.pre x) : CallQ Try.prog E0 44 (sL1.arg x) (sL1.res x) := by
 obtain ⟨M, n, f, m, b⟩ := x
 refine bare_say E0_ok TK TK_ok [] EvensOk.nil runs {} (fuel := 5) ?_
 refine of_red (q := (0 : Int)≤m∧m < (↑M : Int)∧(0 : Int)≤b∧b < (↑n : Int)∧True∧f m.toNat b.toNat = f m.toNat b.toNat) (by kernel_rfl) ?_
 simp only [true_and, and_true, inR, Prod.exists, Prod.forall, and_assoc, exists_and_left, exists_eq_left', exists_eq_left, forall_eq, exists_const, forall_const, loopN, loopM, fa2, fas, fas2, dup1, dup2, dup3, dup4, ite_true, exhs, exhn, exhz, exho, exA, ex1, ex2, ex3, ex4, ex5, beqI, bneI, decide_true, Bool.true_and, decide_eq_true_eq, decide_eq_false_iff_not, ne_eq, Decidable.not_not]
 exact h
def TPA : List (Nat × Sig) := (44, sL1) :: (17, sChos) :: (18, sPick) :: TK
theorem TPA_ok : SigsOk Try.prog E0 TPA := ((TK_ok.cons (runs 18 (by kernel_rfl)) q18).cons (runs 17 (by kernel_rfl)) q17).cons (runs 44 (by kernel_rfl)) q44
structure LrIn where
 n : Nat
 y : Nat → Nat → Int
 l : Nat → Int
 m : Nat
 M : Nat
 f : Nat → Nat → Int
structure LrIn.ok (x : LrIn) : Prop where
 n4 : x.n ≤ 4
 mM : x.m < x.M
 l : ∀ j, j < x.n → 0 ≤ x.l j ∧ x.l j ≤ 1000
 k : ∀ j, j < x.n → 0 ≤ x.f x.m j ∧ x.f x.m j ≤ 1000
def sLdR : Sig := ⟨LrIn, fun x => [.c (casksCV x.n x.y), levTV x.l, intC x.m, .a 1 (fun _ => listC x.M x.n x.f)], fun x => x.ok, fun x => [.v (levTV (lvI x.l (x.f x.m) x.n)), .v (intC (dryI x.y x.l (x.f x.m) x.n))]⟩
theorem q41r (x : sLdR.α) (h : sLdR.pre x) : CallQ Try.prog E0 41 (sLdR.arg x) (sLdR.res x) := by
 obtain ⟨n, y, l, m, M, f⟩ := x
 refine bare_say E0_ok TPA TPA_ok [] EvensOk.nil runs { l := [(41, 3, aLk n y l (f m))] } (fuel := 5) ?_
 refine of_red (q := (∃ (g : Nat), g≤n∧True∧((True∧(0 : Int) = (↑g : Int))∧(True∧(-1 : Int) = dryI y l (f m) g)∧True)∧(True∧(((True∧True∧l 0 = lvI l (f m) g 0)∧True∧l 1 = lvI l (f m) g 1)∧True∧l 2 = lvI l (f m) g 2)∧True∧l 3 = lvI l (f m) g 3)∧True)∧∀ (g : Nat), g≤n→(decide ((↑g : Int) < (↑n : Int)) = true→(0 : Int)≤(↑g : Int)∧(↑g : Int) < (↑(4 : Nat) : Int)∧∃ (x : L1In), ((True∧(↑m : Int) = x.m)∧(True∧(↑g : Int) = x.b)∧(True∧True∧True∧True∧M = x.M∧∀ (i : Nat), i < M→True∧True∧n = x.n∧∀ (i_1 : Nat), i_1 < n→True∧f i i_1 = x.f i i_1)∧True)∧((0 : Int)≤x.m∧x.m < (↑x.M : Int)∧(0 : Int)≤x.b∧x.b < (↑x.n : Int))∧inRange IntKind.i64 (lvI l (f m) g ((0 : Nat) + g * (1 : Nat) + (0 : Nat) + (0 : Nat)) - x.f x.m.toNat x.b.toNat)∧(0 : Int)≤(↑g : Int)∧(↑g : Int) < (↑(4 : Nat) : Int)∧(0 : Int)≤(↑g : Int)∧(↑g : Int) < (↑(4 : Nat) : Int)∧(0 : Int)≤(↑g : Int)∧(↑g : Int) < (↑n : Int)∧(decide ((if (0 : Nat) + g * (1 : Nat) + (0 : Nat) + (0 : Nat) = (0 : Nat) + g * (1 : Nat) + (0 : Nat) then imax (0 : Int) (lvI l (f m) g ((0 : Nat) + g * (1 : Nat) + (0 : Nat) + (0 : Nat)) - x.f x.m.toNat x.b.toNat) else lvI l (f m) g ((0 : Nat) + g * (1 : Nat) + (0 : Nat) + (0 : Nat))) < y g ((0 : Nat) + (nat_lit 1 + (1 : Nat)))) = true→(decide (dryI y l (f m) g < (0 : Int)) = true→inRange IntKind.i64 ((↑g : Int) + (1 : Int))∧∃ (g' : Nat), g'≤n∧n - g' < n - g∧True∧((True∧(↑g : Int) + (1 : Int) = (↑g' : Int))∧(True∧(↑g : Int) = dryI y l (f m) g')∧True)∧(True∧(((True∧True∧(if nat_lit 0 = (0 : Nat) + g * (1 : Nat) + (0 : Nat) then imax (0 : Int) (lvI l (f m) g ((0 : Nat) + g * (1 : Nat) + (0 : Nat) + (0 : Nat)) - x.f x.m.toNat x.b.toNat) else lvI l (f m) g 0) = lvI l (f m) g' 0)∧True∧(if nat_lit 1 = (0 : Nat) + g * (1 : Nat) + (0 : Nat) then imax (0 : Int) (lvI l (f m) g ((0 : Nat) + g * (1 : Nat) + (0 : Nat) + (0 : Nat)) - x.f x.m.toNat x.b.toNat) else lvI l (f m) g 1) = lvI l (f m) g' 1)∧True∧(if nat_lit 2 = (0 : Nat) + g * (1 : Nat) + (0 : Nat) then imax (0 : Int) (lvI l (f m) g ((0 : Nat) + g * (1 : Nat) + (0 : Nat) + (0 : Nat)) - x.f x.m.toNat x.b.toNat) else lvI l (f m) g 2) = lvI l (f m) g' 2)∧True∧(if nat_lit 3 = (0 : Nat) + g * (1 : Nat) + (0 : Nat) then imax (0 : Int) (lvI l (f m) g ((0 : Nat) + g * (1 : Nat) + (0 : Nat) + (0 : Nat)) - x.f x.m.toNat x.b.toNat) else lvI l (f m) g 3) = lvI l (f m) g' 3)∧True)∧(decide (dryI y l (f m) g < (0 : Int)) = false→inRange IntKind.i64 ((↑g : Int) + (1 : Int))∧∃ (g' : Nat), g'≤n∧n - g' < n - g∧True∧((True∧(↑g : Int) + (1 : Int) = (↑g' : Int))∧(True∧dryI y l (f m) g = dryI y l (f m) g')∧True)∧(True∧(((True∧True∧(if nat_lit 0 = (0 : Nat) + g * (1 : Nat) + (0 : Nat) then imax (0 : Int) (lvI l (f m) g ((0 : Nat) + g * (1 : Nat) + (0 : Nat) + (0 : Nat)) - x.f x.m.toNat x.b.toNat) else lvI l (f m) g 0) = lvI l (f m) g' 0)∧True∧(if nat_lit 1 = (0 : Nat) + g * (1 : Nat) + (0 : Nat) then imax (0 : Int) (lvI l (f m) g ((0 : Nat) + g * (1 : Nat) + (0 : Nat) + (0 : Nat)) - x.f x.m.toNat x.b.toNat) else lvI l (f m) g 1) = lvI l (f m) g' 1)∧True∧(if nat_lit 2 = (0 : Nat) + g * (1 : Nat) + (0 : Nat) then imax (0 : Int) (lvI l (f m) g ((0 : Nat) + g * (1 : Nat) + (0 : Nat) + (0 : Nat)) - x.f x.m.toNat x.b.toNat) else lvI l (f m) g 2) = lvI l (f m) g' 2)∧True∧(if nat_lit 3 = (0 : Nat) + g * (1 : Nat) + (0 : Nat) then imax (0 : Int) (lvI l (f m) g ((0 : Nat) + g * (1 : Nat) + (0 : Nat) + (0 : Nat)) - x.f x.m.toNat x.b.toNat) else lvI l (f m) g 3) = lvI l (f m) g' 3)∧True))∧(decide ((if (0 : Nat) + g * (1 : Nat) + (0 : Nat) + (0 : Nat) = (0 : Nat) + g * (1 : Nat) + (0 : Nat) then imax (0 : Int) (lvI l (f m) g ((0 : Nat) + g * (1 : Nat) + (0 : Nat) + (0 : Nat)) - x.f x.m.toNat x.b.toNat) else lvI l (f m) g ((0 : Nat) + g * (1 : Nat) + (0 : Nat) + (0 : Nat))) < y g ((0 : Nat) + (nat_lit 1 + (1 : Nat)))) = false→inRange IntKind.i64 ((↑g : Int) + (1 : Int))∧∃ (g' : Nat), g'≤n∧n - g' < n - g∧True∧((True∧(↑g : Int) + (1 : Int) = (↑g' : Int))∧(True∧dryI y l (f m) g = dryI y l (f m) g')∧True)∧(True∧(((True∧True∧(if nat_lit 0 = (0 : Nat) + g * (1 : Nat) + (0 : Nat) then imax (0 : Int) (lvI l (f m) g ((0 : Nat) + g * (1 : Nat) + (0 : Nat) + (0 : Nat)) - x.f x.m.toNat x.b.toNat) else lvI l (f m) g 0) = lvI l (f m) g' 0)∧True∧(if nat_lit 1 = (0 : Nat) + g * (1 : Nat) + (0 : Nat) then imax (0 : Int) (lvI l (f m) g ((0 : Nat) + g * (1 : Nat) + (0 : Nat) + (0 : Nat)) - x.f x.m.toNat x.b.toNat) else lvI l (f m) g 1) = lvI l (f m) g' 1)∧True∧(if nat_lit 2 = (0 : Nat) + g * (1 : Nat) + (0 : Nat) then imax (0 : Int) (lvI l (f m) g ((0 : Nat) + g * (1 : Nat) + (0 : Nat) + (0 : Nat)) - x.f x.m.toNat x.b.toNat) else lvI l (f m) g 2) = lvI l (f m) g' 2)∧True∧(if nat_lit 3 = (0 : Nat) + g * (1 : Nat) + (0 : Nat) then imax (0 : Int) (lvI l (f m) g ((0 : Nat) + g * (1 : Nat) + (0 : Nat) + (0 : Nat)) - x.f x.m.toNat x.b.toNat) else lvI l (f m) g 3) = lvI l (f m) g' 3)∧True))∧(decide ((↑g : Int) < (↑n : Int)) = false→(True∧(((True∧True∧lvI l (f m) g 0 = lvI l (f m) n 0)∧True∧lvI l (f m) g 1 = lvI l (f m) n 1)∧True∧lvI l (f m) g 2 = lvI l (f m) n 2)∧True∧lvI l (f m) g 3 = lvI l (f m) n 3)∧(True∧dryI y l (f m) g = dryI y l (f m) n)∧True)) (by kernel_rfl) ?_
 simp only [true_and, and_true, inR, Prod.exists, Prod.forall, and_assoc, exists_and_left, exists_eq_left', exists_eq_left, forall_eq, exists_const, forall_const, loopN, loopM, fa2, fas, fas2, dup1, dup2, dup3, dup4, ite_true, exhs, exhn, exhz, exho, exA, ex1, ex2, ex3, ex4, ex5, beqI, bneI, decide_true, Bool.true_and, decide_eq_true_eq, decide_eq_false_iff_not, ne_eq, Decidable.not_not]
 obtain ⟨h4, hM, hl, hk⟩ : LrIn.ok ⟨n, y, l, m, M, f⟩ := h
 have h4 : n ≤ 4 := h4
 have hM : m < M := hM
 refine ⟨⟨0, Nat.zero_le _, rfl, rfl, rfl, rfl, rfl, rfl⟩, fun g hg => ?_⟩
 obtain ⟨l1, l2⟩ : 0 ≤ l g ∧ l g ≤ 1000 := hl g hg
 obtain ⟨k1, k2⟩ : 0 ≤ f m g ∧ f m g ≤ 1000 := hk g hg
 rw [lv_at]
 refine ⟨by omega, by omega, ⟨M, n, f, m, g⟩, rfl, rfl, rfl, fun _ _ => ⟨rfl, fun _ _ => rfl⟩, by show (0 : Int) ≤ (m : Int); omega, by show (m : Int) < (M : Int); omega, by show (0 : Int) ≤ (g : Int); omega, by show (g : Int) < (n : Int); omega, by show _ ≤ l g - f m g; omega, by show l g - f m g ≤ _; omega, by omega, by omega, by omega, by omega, by omega, by omega, fun c => ⟨fun d => ?_, fun d => ?_⟩, fun c => ?_⟩
 · exact ⟨by omega, by omega, g + 1, by omega, by omega, by omega, dry_yes (lk := f m) c d, lv_step (lk := f m), lv_step (lk := f m), lv_step (lk := f m), lv_step (lk := f m)⟩
 · exact ⟨by omega, by omega, g + 1, by omega, by omega, by omega, dry_no (lk := f m) (fun q => d q.2), lv_step (lk := f m), lv_step (lk := f m), lv_step (lk := f m), lv_step (lk := f m)⟩
 · exact ⟨by omega, by omega, g + 1, by omega, by omega, by omega, dry_no (lk := f m) (fun q => c q.1), lv_step (lk := f m), lv_step (lk := f m), lv_step (lk := f m), lv_step (lk := f m)⟩
def TPB : List (Nat × Sig) := (41, sLdR) :: TPA
theorem TPB_ok : SigsOk Try.prog E0 TPB := TPA_ok.cons (runs 41 (by kernel_rfl)) q41r
end Go.Proofs.Ytpigkgoooekcgaa
