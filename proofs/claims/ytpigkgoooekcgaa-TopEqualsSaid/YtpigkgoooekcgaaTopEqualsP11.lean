/- Texts for the law of the last part, part 11. -/
import Derived.Test.YtpigkgoooekcgaaTopEqualsP10
import Derived.Lib.Bytealg
import Derived.WalkKit
import Derived.Laws.Externs
import Derived.StillTailTactics
import Derived.Laws.CopyOwn
set_option linter.unusedSimpArgs false
set_option linter.unusedVariables false
namespace Go.Proofs.Ytpigkgoooekcgaa
open Go Go.Sx Bm
set_option maxRecDepth 100000
set_option maxHeartbeats 4000000
structure Nms (n : Nat) (nf : Nat → ByteArray) : Prop where
 ok : ∀ i, i < n → NameOk (nf i)
 no : ∀ i, i < n → ((nf i).toList == (⟨#[]⟩ : ByteArray).toList) = false
 ne : ∀ i, i < n → ∀ j, j < n → ((nf i).toList == (nf j).toList) = decide (i = j)
 cm : ∀ i, i < n → ∀ j, j < n → Lib.compareBytes (nf i).data.toList (nf j).data.toList = if i < j then -1 else if i = j then 0 else 1
def stkC (nf : Nat → ByteArray) (W : Nat → Int) (i : Nat) : Nat → CV := ofList [.str (nf i), .int .i64 (W i)]
def stksCV (n : Nat) (nf : Nat → ByteArray) (W : Nat → Int) : CV := .vs 2 n (fun i => stkC nf W i)
def eqC (b : ByteArray) (v : Int) : CV := .fn 71 [] (fun _ _ => .any) 1 (fun _ => .ip 2 (ofList [.str b, .int .i64 v]))
def sEqn : Sig := ⟨ByteArray × Int × ByteArray × Int, fun x => [.a 2 (ofList [.str x.1, .int .i64 x.2.1]), .c (.ip 2 (ofList [.str x.2.2.1, .int .i64 x.2.2.2]))], fun _ => True, fun x => [.v (.c (.bool (x.1.toList == x.2.2.1.toList)))]⟩
theorem q71 (x : sEqn.α) : CallQ Try.prog E0 71 (sEqn.arg x) (sEqn.res x) := by
 obtain ⟨a, u, b, v⟩ := x
 refine bare_say E0_ok [] SigsOk.nil [] EvensOk.nil runs {} (fuel := 5) ?_
 refine of_red (q := True∧(a.toList == b.toList) = (a.toList == (u, b, v).snd.fst.toList)) (by kernel_rfl) ?_
 simp only [true_and, and_true, inR, Prod.exists, Prod.forall, and_assoc, exists_and_left, exists_eq_left', exists_eq_left, forall_eq, exists_const, forall_const, loopN, loopM, fa2, fas, fas2, dup1, dup2, dup3, dup4, ite_true, exhs, exhn, exhz, exho, exA, ex1, ex2, ex3, ex4, ex5, beqI, bneI, decide_true, Bool.true_and, decide_eq_true_eq, decide_eq_false_iff_not, ne_eq, Decidable.not_not]
def TSC0 : List (Nat × Sig) := (71, sEqn) :: (69, sNam) :: TSB0
theorem TSC0_ok : SigsOk Try.prog E0 TSC0 := (TSB0_ok.cons (runs 69 (by kernel_rfl)) q69).cons (runs 71 (by kernel_rfl)) fun x _ => q71 x
def sIxn : Sig := ⟨Nat × (Nat → ByteArray) × (Nat → Int) × ByteArray × Int, fun x => [.c (stksCV x.1 x.2.1 x.2.2.1), .c (eqC x.2.2.2.1 x.2.2.2.2)], fun x => x.1 ≤ 10 ∧ ∀ i, i < x.1 → ((x.2.1 i).toList == x.2.2.2.1.toList) = false, fun _ => [.v (intC (-1))]⟩
def aIxn (n : Nat) : Ann := { G := Nat, ok := fun _ i => i ≤ n, dom := fun _ => [], tm := fun _ i => [(8, .t (intC i))], hp := fun _ _ => [], mu := fun _ i => n - i }
theorem q81 (x : sIxn.α) (h : sIxn.pre x) : CallQ Try.prog E0 81 (sIxn.arg x) (sIxn.res x) := by
 obtain ⟨n, nf, W, b, v⟩ := x
 refine bare_say E0_ok TSC0 TSC0_ok [] EvensOk.nil runs { l := [(81, 2, aIxn n)] } (fuel := 5) ?_
 refine of_red (q := (∃ (g : Nat), g≤n∧True∧((True∧(0 : Int) = (↑g : Int))∧True)∧True)∧∀ (g : Nat), g≤n→(decide ((↑g : Int) < (↑n : Int)) = true→(0 : Int)≤(↑g : Int)∧(↑g : Int) < (↑n : Int)∧∃ (x : ByteArray × Int × ByteArray × Int), ((True∧(True∧True∧(nf, W, b, v).fst g = x.fst)∧True∧(nf, W, b, v).snd.fst g = x.snd.fst)∧(True∧True∧(True∧(nf, W, b, v).snd.snd.fst = x.snd.snd.fst)∧(nf, W, b, v).snd.snd.snd = x.snd.snd.snd)∧True)∧True∧((x.fst.toList == x.snd.snd.fst.toList) = true→True∧(↑g : Int) = (-1 : Int))∧((x.fst.toList == x.snd.snd.fst.toList) = false→inRange IntKind.i64 ((↑g : Int) + (1 : Int))∧∃ (g' : Nat), g'≤n∧n - g' < n - g∧True∧((True∧(↑g : Int) + (1 : Int) = (↑g' : Int))∧True)∧True))∧(decide ((↑g : Int) < (↑n : Int)) = false→True∧(-1 : Int) = (-1 : Int))) (by kernel_rfl) ?_
 simp only [true_and, and_true, inR, Prod.exists, Prod.forall, and_assoc, exists_and_left, exists_eq_left', exists_eq_left, forall_eq, exists_const, forall_const, loopN, loopM, fa2, fas, fas2, dup1, dup2, dup3, dup4, ite_true, exhs, exhn, exhz, exho, exA, ex1, ex2, ex3, ex4, ex5, beqI, bneI, decide_true, Bool.true_and, decide_eq_true_eq, decide_eq_false_iff_not, ne_eq, Decidable.not_not]
 obtain ⟨h1, h2⟩ : n ≤ 10 ∧ ∀ i, i < n → ((nf i).toList == b.toList) = false := h
 exact ⟨Nat.zero_le _, fun g hg => ⟨by omega, by omega, fun e => (by rw [h2 g hg] at e; cases e), fun _ => ⟨by omega, by omega, by omega, by omega⟩⟩⟩
def sNot : Sig := ⟨Nat × (Nat → ByteArray) × (Nat → Int) × ByteArray × Int, fun x => [.c (stksCV x.1 x.2.1 x.2.2.1), .c (eqC x.2.2.2.1 x.2.2.2.2)], fun x => x.1 ≤ 10 ∧ ∀ i, i < x.1 → ((x.2.1 i).toList == x.2.2.2.1.toList) = false, fun _ => [.v (.c (.bool false))]⟩
def TSC1 : List (Nat × Sig) := (81, sIxn) :: TSC0
theorem TSC1_ok : SigsOk Try.prog E0 TSC1 := TSC0_ok.cons (runs 81 (by kernel_rfl)) q81
theorem q70 (x : sNot.α) (h : sNot.pre x) : CallQ Try.prog E0 70 (sNot.arg x) (sNot.res x) := by
 obtain ⟨n, nf, W, b, v⟩ := x
 refine bare_say E0_ok TSC1 TSC1_ok [] EvensOk.nil runs {} (fuel := 5) ?_
 refine of_red (q := ∃ (x : Nat × (Nat→ByteArray) × (Nat→Int) × ByteArray × Int), ((True∧True∧n = x.fst∧∀ (i : Nat), i < n→(True∧(nf, W, b, v).fst i = x.snd.fst i)∧(nf, W, b, v).snd.fst i = x.snd.snd.fst i)∧(True∧True∧True∧True∧True∧(True∧(nf, W, b, v).snd.snd.fst = x.snd.snd.snd.fst)∧(nf, W, b, v).snd.snd.snd = x.snd.snd.snd.snd)∧True)∧(x.fst≤(10 : Nat)∧∀ (i : Nat), i < x.fst→((x.snd.fst i).toList == x.snd.snd.snd.fst.toList) = false)∧True∧decide ((0 : Int)≤(-1 : Int)) = false) (by kernel_rfl) ?_
 simp only [true_and, and_true, inR, Prod.exists, Prod.forall, and_assoc, exists_and_left, exists_eq_left', exists_eq_left, forall_eq, exists_const, forall_const, loopN, loopM, fa2, fas, fas2, dup1, dup2, dup3, dup4, ite_true, exhs, exhn, exhz, exho, exA, ex1, ex2, ex3, ex4, ex5, beqI, bneI, decide_true, Bool.true_and, decide_eq_true_eq, decide_eq_false_iff_not, ne_eq, Decidable.not_not]
 obtain ⟨h1, h2⟩ : n ≤ 10 ∧ ∀ i, i < n → ((nf i).toList == b.toList) = false := h
 exact ⟨nf, W, fun _ _ => ⟨rfl, rfl⟩, h1, h2, by decide⟩
def TSC2 : List (Nat × Sig) := (70, sNot) :: TSC1
theorem TSC2_ok : SigsOk Try.prog E0 TSC2 := TSC1_ok.cons (runs 70 (by kernel_rfl)) q70
def sStk : Sig := ⟨Nat × (Nat → ByteArray) × (Nat → Int), fun x => [.c (stksCV x.1 x.2.1 x.2.2)], fun x => x.1 ≤ 8 ∧ Nms x.1 x.2.1 ∧ ∀ i, i < x.1 → 0 ≤ x.2.2 i ∧ x.2.2 i ≤ 1000, fun _ => [.v (.c (.bool true))]⟩
def aStk (n : Nat) : Ann := { G := Nat, ok := fun _ i => i ≤ n, dom := fun _ => [], tm := fun _ i => [(11, .t (intC i)), (3, .t (.c (.bool true)))], hp := fun _ _ => [], mu := fun _ i => n - i }
theorem q49 (x : sStk.α) (h : sStk.pre x) : CallQ Try.prog E0 49 (sStk.arg x) (sStk.res x) := by
 obtain ⟨n, nf, W⟩ := x
 refine bare_say E0_ok TSC2 TSC2_ok [] EvensOk.nil runs { l := [(49, 3, aStk n)] } (fuel := 5) ?_
 refine of_red (q := (∃ (g : Nat), g≤n∧True∧((True∧(0 : Int) = (↑g : Int))∧(True∧decide ((↑n : Int)≤(10 : Int)) = true)∧True)∧True)∧∀ (g : Nat), g≤n→(decide ((↑g : Int) < (↑n : Int)) = true→(0 : Int)≤(↑g : Int)∧(↑g : Int) < (↑n : Int)∧(true = true→∃ (x : ByteArray), ((True∧nf g = x)∧True)∧NameOk x∧(true = true→∃ (x : Int × Int × Int), ((True∧W g = x.fst)∧(True∧(0 : Int) = x.snd.fst)∧(True∧(1000 : Int) = x.snd.snd)∧True)∧True∧(within x.fst x.snd.fst x.snd.snd = true→(0 : Int)≤(0 : Int)∧(0 : Int)≤(↑g : Int)∧(↑g : Int)≤(↑n : Int)∧∃ (x : Nat × (Nat→ByteArray) × (Nat→Int) × ByteArray × Int), ((True∧True∧g - (0 : Nat) = x.fst∧∀ (i : Nat), i < g - (0 : Nat)→(True∧(nf, W).fst i = x.snd.fst i)∧(nf, W).snd i = x.snd.snd.fst i)∧(True∧True∧True∧True∧True∧(True∧(nf, W).fst g = x.snd.snd.snd.fst)∧(nf, W).snd g = x.snd.snd.snd.snd)∧True)∧(x.fst≤(10 : Nat)∧∀ (i : Nat), i < x.fst→((x.snd.fst i).toList == x.snd.snd.snd.fst.toList) = false)∧inRange IntKind.i64 ((↑g : Int) + (1 : Int))∧∃ (g' : Nat), g'≤n∧n - g' < n - g∧True∧((True∧(↑g : Int) + (1 : Int) = (↑g' : Int))∧(True∧(!false) = true)∧True)∧True)∧(within x.fst x.snd.fst x.snd.snd = false→inRange IntKind.i64 ((↑g : Int) + (1 : Int))∧∃ (g' : Nat), g'≤n∧n - g' < n - g∧True∧((True∧(↑g : Int) + (1 : Int) = (↑g' : Int))∧(True∧true = false)∧True)∧True))∧(true = false→inRange IntKind.i64 ((↑g : Int) + (1 : Int))∧∃ (g' : Nat), g'≤n∧n - g' < n - g∧True∧((True∧(↑g : Int) + (1 : Int) = (↑g' : Int))∧(True∧true = false)∧True)∧True))∧(true = false→inRange IntKind.i64 ((↑g : Int) + (1 : Int))∧∃ (g' : Nat), g'≤n∧n - g' < n - g∧True∧((True∧(↑g : Int) + (1 : Int) = (↑g' : Int))∧(True∧true = false)∧True)∧True))∧(decide ((↑g : Int) < (↑n : Int)) = false→True∧true = true)) (by kernel_rfl) ?_
 simp only [true_and, and_true, inR, Prod.exists, Prod.forall, and_assoc, exists_and_left, exists_eq_left', exists_eq_left, forall_eq, exists_const, forall_const, loopN, loopM, fa2, fas, fas2, dup1, dup2, dup3, dup4, ite_true, exhs, exhn, exhz, exho, exA, ex1, ex2, ex3, ex4, ex5, beqI, bneI, decide_true, Bool.true_and, decide_eq_true_eq, decide_eq_false_iff_not, ne_eq, Decidable.not_not]
 obtain ⟨h8, hn, hW⟩ : n ≤ 8 ∧ Nms n nf ∧ ∀ i, i < n → 0 ≤ W i ∧ W i ≤ 1000 := h
 refine ⟨⟨0, Nat.zero_le _, rfl, by omega⟩, fun g hg => ⟨by omega, by omega, hn.ok g hg, fun _ => ⟨by omega, by omega, by omega, nf, W, fun _ _ => ⟨rfl, rfl⟩, by omega, fun i hi => ?_, by omega, by omega, g + 1, by omega, by omega, by omega, rfl⟩, fun h => ?_, fun h => Bool.noConfusion h, fun h => Bool.noConfusion h⟩⟩
 · rw [hn.ne i (by omega) g hg]; exact decide_eq_false (by omega)
 · rw [Bm.within_iff.2 (hW g hg)] at h; cases h
def sWgt : Sig := ⟨Nat × (Nat → ByteArray) × (Nat → Int), fun x => [.c (stksCV x.1 x.2.1 x.2.2)], fun x => x.1 ≤ 8, fun x => [.own 3 1 x.1 (fun i _ => .int .i64 (x.2.2 i))]⟩
def aWgt (n : Nat) (W : Nat → Int) : Ann := { G := Nat, ok := fun _ i => i ≤ n, dom := fun st => [st.nx], tm := fun st i => [(8, .t (intC i)), (3, .t (.c (.os st.nx 1 i)))], hp := fun st i => [(st.nx, .slot 3, some (.row 3 1 i (fun j _ => .int .i64 (W j))))], mu := fun _ i => n - i }
theorem q51 (x : sWgt.α) (h : sWgt.pre x) : CallQ Try.prog E0 51 (sWgt.arg x) (sWgt.res x) := by
 obtain ⟨n, nf, W⟩ := x
 refine bare_say E0_ok [] SigsOk.nil [] EvensOk.nil runs { l := [(51, 3, aWgt n W)] } (fuel := 5) ?_
 refine of_red (q := (∃ (g : Nat), g≤n∧True∧((True∧(0 : Int) = (↑g : Int))∧(True∧g = (0 : Nat))∧True)∧g = (0 : Nat)∧True)∧∀ (g : Nat), g≤n→(decide ((↑g : Int) < (↑n : Int)) = true→(0 : Int)≤(↑g : Int)∧(↑g : Int) < (↑n : Int)∧(g + (1 : Nat)) * (8 : Nat)≤(140737488355328 : Nat)∧g + (1 : Nat) < (4611686018427387904 : Nat)∧inRange IntKind.i64 ((↑g : Int) + (1 : Int))∧∃ (g' : Nat), g'≤n∧n - g' < n - g∧True∧((True∧(↑g : Int) + (1 : Int) = (↑g' : Int))∧(True∧True∧g + (1 : Nat) = g')∧True)∧(True∧True∧g + (1 : Nat) = g'∧∀ (i : Nat), i < g + (1 : Nat)→True∧(if i < g then W i else if i - g = (0 : Nat) then W g else (0 : Int)) = W i)∧True)∧(decide ((↑g : Int) < (↑n : Int)) = false→True∧g = n∧True∧True∧g = n∧∀ (i : Nat), i < g→True∧W i = (nf, W).snd i)) (by kernel_rfl) ?_
 simp only [true_and, and_true, inR, Prod.exists, Prod.forall, and_assoc, exists_and_left, exists_eq_left', exists_eq_left, forall_eq, exists_const, forall_const, loopN, loopM, fa2, fas, fas2, dup1, dup2, dup3, dup4, ite_true, exhs, exhn, exhz, exho, exA, ex1, ex2, ex3, ex4, ex5, beqI, bneI, decide_true, Bool.true_and, decide_eq_true_eq, decide_eq_false_iff_not, ne_eq, Decidable.not_not]
 have h8 : n ≤ 8 := h
 refine ⟨Nat.zero_le _, rfl, fun g hg => ⟨by omega, by omega, by omega, by omega, by omega, by omega, g + 1, by omega, by omega, by omega, rfl, rfl, fun i hi => ?_⟩, fun _ _ => trivial⟩
 by_cases e : i < g
 · rw [if_pos e]
 · rw [if_neg e, if_pos (by omega), show i = g by omega]
def aSm2 (n : Nat) (f : Nat → Int) : Ann := { G := Nat, ok := fun _ i => i ≤ n, dom := fun _ => [], tm := fun _ i => [(8, .t (intC i)), (3, .t (intC (sm f i)))], hp := fun _ _ => [], mu := fun _ i => n - i }
theorem q50 (x : sSm.α) (h : sSm.pre x) : CallQ Try.prog E0 50 (sSm.arg x) (sSm.res x) := by
 obtain ⟨n, f⟩ := x
 refine bare_say E0_ok [] SigsOk.nil [] EvensOk.nil runs { l := [(50, 3, aSm2 n f)] } (fuel := 5) ?_
 refine of_red (q := (∃ (g : Nat), g≤n∧True∧((True∧(0 : Int) = (↑g : Int))∧(True∧(0 : Int) = sm f g)∧True)∧True)∧∀ (g : Nat), g≤n→(decide ((↑g : Int) < (↑n : Int)) = true→(0 : Int)≤(↑g : Int)∧(↑g : Int) < (↑n : Int)∧inRange IntKind.i64 (sm f g + f g)∧inRange IntKind.i64 ((↑g : Int) + (1 : Int))∧∃ (g' : Nat), g'≤n∧n - g' < n - g∧True∧((True∧(↑g : Int) + (1 : Int) = (↑g' : Int))∧(True∧sm f g + f g = sm f g')∧True)∧True)∧(decide ((↑g : Int) < (↑n : Int)) = false→True∧sm f g = sm f n)) (by kernel_rfl) ?_
 simp only [true_and, and_true, inR, Prod.exists, Prod.forall, and_assoc, exists_and_left, exists_eq_left', exists_eq_left, forall_eq, exists_const, forall_const, loopN, loopM, fa2, fas, fas2, dup1, dup2, dup3, dup4, ite_true, exhs, exhn, exhz, exho, exA, ex1, ex2, ex3, ex4, ex5, beqI, bneI, decide_true, Bool.true_and, decide_eq_true_eq, decide_eq_false_iff_not, ne_eq, Decidable.not_not]
 obtain ⟨hn, hf⟩ : n ≤ 10 ∧ ∀ i, i < n → 0 ≤ f i ∧ f i ≤ 10000000 := h
 refine ⟨⟨0, Nat.zero_le _, rfl, rfl⟩, fun g hg => ?_⟩
 have b := sm_bd (f := f) (K := 10000000) (n := g + 1) fun i hi => hf i (by omega)
 have e : sm f (g + 1) = sm f g + f g := rfl
 exact ⟨by omega, by omega, by omega, by omega, by omega, by omega, g + 1, by omega, by omega, by omega, rfl⟩
end Go.Proofs.Ytpigkgoooekcgaa
namespace Go.Proofs.Ytpigkgoooekcgaa
open Go Go.Sx Bm
set_option maxRecDepth 100000
set_option maxHeartbeats 4000000
theorem cmp91 (a b : ByteArray) (w : World) : Calls Try.prog 91 #[.string a, .string b] w fun e w' => e = .returned (.int .i64 (Lib.compareBytes a.data.toList b.data.toList)) ∧ w' = w := by
 go_enter Try.func91, Try.ntmps91
 go_wp2
 rw [run_callFunc_extern Try.func95 (by kernel_rfl) (by kernel_rfl) (by kernel_rfl) (e := Extern.BytealgCompare.compare) (by kernel_rfl), Lib.run_compareString]
 simp only [Result.andThen]
 rw [Oper.upon_value]
 go_wp2
 go_ret
 exact ⟨rfl, rfl⟩
def cmpB (a b : ByteArray) : Int := Lib.compareBytes a.data.toList b.data.toList
def sCmN : Sig := ⟨ByteArray × ByteArray, fun x => [.c (.str x.1), .c (.str x.2)], fun _ => True, fun x => [.v (intC (cmpB x.1 x.2))]⟩
theorem q91 (x : sCmN.α) : CallQ Try.prog E0 91 (sCmN.arg x) (sCmN.res x) := by
 intro Z w vs hs hr
 obtain ⟨i, j⟩ := x
 match vs, hr with
 | [u, v], hr =>
   obtain rfl : u = .string i := hr.1
   obtain rfl : v = .string j := hr.2.1
   refine CallsIn.mono (callsIn_wide.2 (cmp91 i j w)) fun e w' h => ?_
   obtain ⟨rfl, rfl⟩ := h
   refine ⟨.int .i64 (cmpB i j), fun _ => .no, Z, ?_, hs.weaken fun _ _ => trivial, ?_, Evo.refl _ _ _, fun b ⟨n, blk, ln, h1, _⟩ => (by cases h1), fun b hb => .inl hb⟩
   · unfold cmpB; rfl
   · show Value.int .i64 (cmpB i j) = Value.int .i64 (cmpB i j); rfl
theorem run91 : ∃ fn c, Try.prog.funcs[91]? = some fn ∧ (fn.name == "runtime.NumGoroutine") = false ∧ fn.body = some c := ⟨Try.f91, _, Try.func91, by kernel_rfl, rfl⟩
end Go.Proofs.Ytpigkgoooekcgaa
namespace Go.Proofs.Ytpigkgoooekcgaa
open Go Go.Sx Bm
set_option maxRecDepth 100000
set_option maxHeartbeats 4000000
structure ShV where
 nf : Nat → ByteArray
 W : Nat → Int
 G : Nat → Int
 R : Int
def shrC (x : ShV) (i : Nat) : Nat → CV := ofList [.str (x.nf i), .int .i64 (x.W i), .int .i64 (x.G i), .int .i64 x.R, .int .i64 i]
def shrsCV (n : Nat) (x : ShV) : CV := .vs 5 n (fun i => shrC x i)
def cmpC : CV := .fn 83 [] (fun _ _ => .any) 0 (fun _ => .any)
theorem q86 (x : sCmN.α) : CallQ Try.prog E0 86 (sCmN.arg x) (sCmN.res x) := by
 obtain ⟨i, j⟩ := x
 refine bare_say E0_ok [(91, sCmN)] (SigsOk.nil.cons run91 fun x _ => q91 x) [] EvensOk.nil runs {} (fuel := 5) ?_
 refine of_red (q := ∃ (x : ByteArray × ByteArray), ((True∧i = x.fst)∧(True∧j = x.snd)∧True)∧True∧True∧cmpB x.fst x.snd = cmpB i j) (by kernel_rfl) ?_
 simp only [true_and, and_true, inR, Prod.exists, Prod.forall, and_assoc, exists_and_left, exists_eq_left', exists_eq_left, forall_eq, exists_const, forall_const, loopN, loopM, fa2, fas, fas2, dup1, dup2, dup3, dup4, ite_true, exhs, exhn, exhz, exho, exA, ex1, ex2, ex3, ex4, ex5, beqI, bneI, decide_true, Bool.true_and, decide_eq_true_eq, decide_eq_false_iff_not, ne_eq, Decidable.not_not]
def sNaN : Sig := ⟨Int, fun x => [intC x], fun _ => True, fun _ => [.v (.c (.bool false))]⟩
theorem q90 (x : Int) : CallQ Try.prog E0 90 (sNaN.arg x) (sNaN.res x) := by
 refine bare_say E0_ok [] SigsOk.nil [] EvensOk.nil runs {} (fuel := 5) ?_
 refine of_red (q := True∧(x != x) = false) (by kernel_rfl) ?_
 simp only [true_and, and_true, inR, Prod.exists, Prod.forall, and_assoc, exists_and_left, exists_eq_left', exists_eq_left, forall_eq, exists_const, forall_const, loopN, loopM, fa2, fas, fas2, dup1, dup2, dup3, dup4, ite_true, exhs, exhn, exhz, exho, exA, ex1, ex2, ex3, ex4, ex5, beqI, bneI, decide_true, Bool.true_and, decide_eq_true_eq, decide_eq_false_iff_not, ne_eq, Decidable.not_not]
def sSam : Sig := ⟨Int, fun x => [intC x, intC x], fun _ => True, fun _ => [.v (intC 0)]⟩
def TSD0 : List (Nat × Sig) := (90, sNaN) :: (86, sCmN) :: []
theorem TSD0_ok : SigsOk Try.prog E0 TSD0 := (SigsOk.nil.cons (runs 86 (by kernel_rfl)) fun x _ => q86 x).cons (runs 90 (by kernel_rfl)) fun x _ => q90 x
theorem q85 (x : Int) : CallQ Try.prog E0 85 (sSam.arg x) (sSam.res x) := by
 refine bare_say E0_ok TSD0 TSD0_ok [] EvensOk.nil runs {} (fuel := 5) ?_
 refine of_red (q := ∃ (x_1 : Int), ((True∧x = x_1)∧True)∧True∧∃ (x_2 : Int), ((True∧x = x_2)∧True)∧True∧(false = true→(false = true→True∧(0 : Int) = (0 : Int))∧(false = false→True∧(-1 : Int) = (0 : Int)))∧(false = false→(false = true→True∧(1 : Int) = (0 : Int))∧(false = false→(decide (x < x) = true→True∧(-1 : Int) = (0 : Int))∧(decide (x < x) = false→(decide (x < x) = true→True∧(1 : Int) = (0 : Int))∧(decide (x < x) = false→True∧(0 : Int) = (0 : Int)))))) (by kernel_rfl) ?_
 simp only [true_and, and_true, inR, Prod.exists, Prod.forall, and_assoc, exists_and_left, exists_eq_left', exists_eq_left, forall_eq, exists_const, forall_const, loopN, loopM, fa2, fas, fas2, dup1, dup2, dup3, dup4, ite_true, exhs, exhn, exhz, exho, exA, ex1, ex2, ex3, ex4, ex5, beqI, bneI, decide_true, Bool.true_and, decide_eq_true_eq, decide_eq_false_iff_not, ne_eq, Decidable.not_not]
 exact ⟨fun h => Bool.noConfusion h, fun h => Bool.noConfusion h, fun h => absurd h (Int.lt_irrefl x), fun _ => trivial⟩
def sOr : Sig := ⟨Int, fun c => [.c (intsCV 2 (fun i => if i = 0 then 0 else c))], fun _ => True, fun c => [.v (intC c)]⟩
def aOr (c : Int) : Ann := { G := Nat, ok := fun _ i => i ≤ 2 ∧ (i = 2 → c = 0), dom := fun _ => [], tm := fun _ i => [(8, .t (intC i))], hp := fun _ _ => [], mu := fun _ i => 2 - i }
theorem q84 (c : Int) : CallQ Try.prog E0 84 (sOr.arg c) (sOr.res c) := by
 refine bare_say E0_ok [] SigsOk.nil [] EvensOk.nil runs { l := [(84, 3, aOr c)] } (fuel := 5) ?_
 refine of_red (q := (∃ (g : Nat), (g≤(2 : Nat)∧(g = (2 : Nat)→c = (0 : Int)))∧True∧((True∧(0 : Int) = (↑g : Int))∧True)∧True)∧∀ (g : Nat), g≤(2 : Nat)∧(g = (2 : Nat)→c = (0 : Int))→(decide ((↑g : Int) < (↑(2 : Nat) : Int)) = true→(0 : Int)≤(↑g : Int)∧(↑g : Int) < (↑(2 : Nat) : Int)∧(((if g = (0 : Nat) then (0 : Int) else c) != (0 : Int)) = true→True∧(if g = (0 : Nat) then (0 : Int) else c) = c)∧(((if g = (0 : Nat) then (0 : Int) else c) != (0 : Int)) = false→inRange IntKind.i64 ((↑g : Int) + (1 : Int))∧∃ (g' : Nat), (g'≤(2 : Nat)∧(g' = (2 : Nat)→c = (0 : Int)))∧(2 : Nat) - g' < (2 : Nat) - g∧True∧((True∧(↑g : Int) + (1 : Int) = (↑g' : Int))∧True)∧True))∧(decide ((↑g : Int) < (↑(2 : Nat) : Int)) = false→True∧(0 : Int) = c)) (by kernel_rfl) ?_
 simp only [true_and, and_true, inR, Prod.exists, Prod.forall, and_assoc, exists_and_left, exists_eq_left', exists_eq_left, forall_eq, exists_const, forall_const, loopN, loopM, fa2, fas, fas2, dup1, dup2, dup3, dup4, ite_true, exhs, exhn, exhz, exho, exA, ex1, ex2, ex3, ex4, ex5, beqI, bneI, decide_true, Bool.true_and, decide_eq_true_eq, decide_eq_false_iff_not, ne_eq, Decidable.not_not]
 refine ⟨by omega, by omega, fun g hg hc => ⟨by omega, by omega, fun h => ?_, fun h => ⟨by omega, by omega, by omega, fun e => ?_, by omega⟩⟩, fun h => by omega⟩
 · by_cases e : g = 0
   · rw [if_pos e] at h; exact absurd rfl h
   · rw [if_neg e]
 · rw [if_neg (by omega)] at h; exact h
def TSD1 : List (Nat × Sig) := (84, sOr) :: (85, sSam) :: TSD0
theorem TSD1_ok : SigsOk Try.prog E0 TSD1 := (TSD0_ok.cons (runs 85 (by kernel_rfl)) fun x _ => q85 x).cons (runs 84 (by kernel_rfl)) fun x _ => q84 x
def sCsh : Sig := ⟨(ByteArray × Int × Int × Int) × (ByteArray × Int × Int × Int) × Int, fun x => [.a 5 (ofList [.str x.1.1, .int .i64 x.1.2.1, .int .i64 x.1.2.2.1, .int .i64 x.2.2, .int .i64 x.1.2.2.2]), .a 5 (ofList [.str x.2.1.1, .int .i64 x.2.1.2.1, .int .i64 x.2.1.2.2.1, .int .i64 x.2.2, .int .i64 x.2.1.2.2.2])], fun _ => True, fun x => [.v (intC (cmpB x.1.1 x.2.1.1))]⟩
theorem q83 (x : sCsh.α) : CallQ Try.prog E0 83 (sCsh.arg x) (sCsh.res x) := by
 obtain ⟨⟨a, u, g, p⟩, ⟨b, v, k, q⟩, R⟩ := x
 refine bare_say E0_ok TSD1 TSD1_ok [] EvensOk.nil runs {} (fuel := 5) ?_
 refine of_red (q := ∃ (x : Int), ((True∧R = x)∧(True∧R = x)∧True)∧True∧∃ (x : ByteArray × ByteArray), ((True∧a = x.fst)∧(True∧(b, v, k, q).fst = x.snd)∧True)∧True∧∃ (x_1 : Int), ((True∧True∧(2 : Nat) = (2 : Nat)∧∀ (i : Nat), i < (2 : Nat)→True∧(if i = (1 : Nat) then cmpB x.fst x.snd else if i = (0 : Nat) then (0 : Int) else (0 : Int)) = if i = (0 : Nat) then (0 : Int) else x_1)∧True)∧True∧True∧x_1 = cmpB (a, u, g, p).fst ((b, v, k, q), R).fst.fst) (by kernel_rfl) ?_
 simp only [true_and, and_true, inR, Prod.exists, Prod.forall, and_assoc, exists_and_left, exists_eq_left', exists_eq_left, forall_eq, exists_const, forall_const, loopN, loopM, fa2, fas, fas2, dup1, dup2, dup3, dup4, ite_true, exhs, exhn, exhz, exho, exA, ex1, ex2, ex3, ex4, ex5, beqI, bneI, decide_true, Bool.true_and, decide_eq_true_eq, decide_eq_false_iff_not, ne_eq, Decidable.not_not]
 intro i hi
 by_cases e : i = 0
 · subst e; rfl
 · obtain rfl : i = 1 := by omega
   rfl
def TSD2 : List (Nat × Sig) := (83, sCsh) :: TSD1
theorem TSD2_ok : SigsOk Try.prog E0 TSD2 := TSD1_ok.cons (runs 83 (by kernel_rfl)) fun x _ => q83 x
def sIns : Sig := ⟨Nat × ShV, fun x => [.c (shrsCV x.1 x.2), intC 0, intC x.1, .c cmpC], fun x => x.1 ≤ 8 ∧ Nms x.1 x.2.nf, fun _ => []⟩
def aIn1 (n : Nat) : Ann := { G := Nat, ok := fun _ i => 1 ≤ i ∧ i ≤ n + 1, dom := fun _ => [], tm := fun _ i => [(8, .t (intC i))], hp := fun _ _ => [], mu := fun _ i => n + 1 - i }
def aIn2 : Ann := { G := Unit, ok := fun _ _ => True, dom := fun _ => [], tm := fun st _ => [(9, st.tm 8)], hp := fun _ _ => [], mu := fun _ _ => 0 }
theorem q96 (x : sIns.α) (h : sIns.pre x) : CallQ Try.prog E0 96 (sIns.arg x) (sIns.res x) := by
 obtain ⟨n, x⟩ := x
 refine bare_say E0_ok TSD2 TSD2_ok [] EvensOk.nil runs { l := [(96, 1, aIn1 n), (96, 4, aIn2)] } (fuel := 5) ?_
 refine of_red (q := inRange IntKind.i64 ((0 : Int) + (1 : Int))∧(∃ (g : Nat), ((1 : Nat)≤g∧g≤n + (1 : Nat))∧True∧((True∧(0 : Int) + (1 : Int) = (↑g : Int))∧True)∧True)∧∀ (g : Nat), (1 : Nat)≤g∧g≤n + (1 : Nat)→(decide ((↑g : Int) < (↑n : Int)) = true→(∃ (g_1 : Unit), True∧True∧((True∧(↑g : Int) = (↑g : Int))∧True)∧True)∧∀ (g_1 : Unit), True→(decide ((0 : Int) < (↑g : Int)) = true→(0 : Int)≤(↑g : Int)∧(↑g : Int) < (↑n : Int)∧inRange IntKind.i64 ((↑g : Int) - (1 : Int))∧(0 : Int)≤(↑g : Int) - (1 : Int)∧(↑g : Int) - (1 : Int) < (↑n : Int)∧∃ (x_1 : (ByteArray × Int × Int × Int) × (ByteArray × Int × Int × Int) × Int), ((True∧((((True∧True∧x.nf g = x_1.fst.fst)∧True∧x.W g = x_1.fst.snd.fst)∧True∧x.G g = x_1.fst.snd.snd.fst)∧True∧x.R = x_1.snd.snd)∧True∧(↑g : Int) = x_1.fst.snd.snd.snd)∧(True∧((((True∧True∧x.nf ((↑g : Int) - (1 : Int)).toNat = x_1.snd.fst.fst)∧True∧x.W ((↑g : Int) - (1 : Int)).toNat = x_1.snd.fst.snd.fst)∧True∧x.G ((↑g : Int) - (1 : Int)).toNat = x_1.snd.fst.snd.snd.fst)∧True∧x.R = x_1.snd.snd)∧True∧(↑((↑g : Int) - (1 : Int)).toNat : Int) = x_1.snd.fst.snd.snd.snd)∧True)∧True∧(decide (cmpB x_1.fst.fst x_1.snd.fst.fst < (0 : Int)) = true→inRange IntKind.i64 ((↑g : Int) - (1 : Int))∧inRange IntKind.i64 ((↑g : Int) - (1 : Int))∧(0 : Int)≤(↑g : Int) - (1 : Int)∧(↑g : Int) - (1 : Int) < (↑n : Int)∧(0 : Int)≤(↑g : Int)∧(↑g : Int) < (↑n : Int)∧(0 : Int)≤(↑g : Int)∧(↑g : Int) < (↑n : Int)∧False)∧(decide (cmpB x_1.fst.fst x_1.snd.fst.fst < (0 : Int)) = false→inRange IntKind.i64 ((↑g : Int) + (1 : Int))∧∃ (g' : Nat), ((1 : Nat)≤g'∧g'≤n + (1 : Nat))∧n + (1 : Nat) - g' < n + (1 : Nat) - g∧True∧((True∧(↑g : Int) + (1 : Int) = (↑g' : Int))∧True)∧True))∧(decide ((0 : Int) < (↑g : Int)) = false→inRange IntKind.i64 ((↑g : Int) + (1 : Int))∧∃ (g' : Nat), ((1 : Nat)≤g'∧g'≤n + (1 : Nat))∧n + (1 : Nat) - g' < n + (1 : Nat) - g∧True∧((True∧(↑g : Int) + (1 : Int) = (↑g' : Int))∧True)∧True))∧(decide ((↑g : Int) < (↑n : Int)) = false→True)) (by kernel_rfl) ?_
 simp only [true_and, and_true, inR, Prod.exists, Prod.forall, and_assoc, exists_and_left, exists_eq_left', exists_eq_left, forall_eq, exists_const, forall_const, loopN, loopM, fa2, fas, fas2, dup1, dup2, dup3, dup4, ite_true, exhs, exhn, exhz, exho, exA, ex1, ex2, ex3, ex4, ex5, beqI, bneI, decide_true, Bool.true_and, decide_eq_true_eq, decide_eq_false_iff_not, ne_eq, Decidable.not_not]
 obtain ⟨h8, hn⟩ : n ≤ 8 ∧ Nms n x.nf := h
 refine ⟨by omega, by omega, ⟨1, by omega, by omega, rfl⟩, fun g hg => ⟨fun h1 => ⟨fun h2 => ⟨by omega, by omega, by omega, by omega, by omega, by omega, fun h3 => ?_, fun h3 => ⟨by omega, by omega, by omega, by omega, by omega⟩⟩, fun h2 => ⟨by omega, by omega, by omega, by omega, by omega⟩⟩, fun _ => trivial⟩⟩
 exfalso
 have e : ((g : Int) - 1).toNat = g - 1 := by omega
 have c : cmpB (x.nf g) (x.nf (g - 1)) = if g < g - 1 then -1 else if g = g - 1 then 0 else 1 := hn.cm g (by omega) (g - 1) (by omega)
 rw [if_neg (by omega), if_neg (by omega)] at c
 rw [e, c] at h3
 omega
end Go.Proofs.Ytpigkgoooekcgaa
namespace Go.Proofs.Ytpigkgoooekcgaa
open Go Go.Sx Bm
set_option maxRecDepth 100000
set_option maxHeartbeats 4000000
def lenB : Nat → Int
 | 0 => 0
 | 1 => 1
 | 2 => 2
 | 3 => 2
 | 4 => 3
 | 5 => 3
 | 6 => 3
 | 7 => 3
 | _ => 4
theorem len105 (n : Nat) (h : n ≤ 8) (w : World) : Calls Try.prog 105 #[.int .u64 n] w fun e w' => e = .returned (.int .i64 (lenB n)) ∧ w' = w := by
 match n, h with
 | 0, _ =>
   go_enter Try.func105, Try.ntmps105
   go_wp2
   go_ret
   exact ⟨by kernel_rfl, rfl⟩
 | 1, _ =>
   go_enter Try.func105, Try.ntmps105
   go_wp2
   go_ret
   exact ⟨by kernel_rfl, rfl⟩
 | 2, _ =>
   go_enter Try.func105, Try.ntmps105
   go_wp2
   go_ret
   exact ⟨by kernel_rfl, rfl⟩
 | 3, _ =>
   go_enter Try.func105, Try.ntmps105
   go_wp2
   go_ret
   exact ⟨by kernel_rfl, rfl⟩
 | 4, _ =>
   go_enter Try.func105, Try.ntmps105
   go_wp2
   go_ret
   exact ⟨by kernel_rfl, rfl⟩
 | 5, _ =>
   go_enter Try.func105, Try.ntmps105
   go_wp2
   go_ret
   exact ⟨by kernel_rfl, rfl⟩
 | 6, _ =>
   go_enter Try.func105, Try.ntmps105
   go_wp2
   go_ret
   exact ⟨by kernel_rfl, rfl⟩
 | 7, _ =>
   go_enter Try.func105, Try.ntmps105
   go_wp2
   go_ret
   exact ⟨by kernel_rfl, rfl⟩
 | 8, _ =>
   go_enter Try.func105, Try.ntmps105
   go_wp2
   go_ret
   exact ⟨by kernel_rfl, rfl⟩
def sLen : Sig := ⟨Nat, fun n => [.c (.int .u64 n)], fun n => n ≤ 8, fun n => [.v (intC (lenB n))]⟩
theorem q105 (n : Nat) (h : sLen.pre n) : CallQ Try.prog E0 105 (sLen.arg n) (sLen.res n) := by
 intro Z w vs hs hr
 match vs, hr with
 | [u], hr =>
   obtain rfl : u = .int .u64 (n : Int) := hr.1
   refine CallsIn.mono (callsIn_wide.2 (len105 n h w)) fun e w' h => ?_
   obtain ⟨rfl, rfl⟩ := h
   refine ⟨.int .i64 (lenB n), fun _ => .no, Z, ?_, hs.weaken fun _ _ => trivial, ?_, Evo.refl _ _ _, fun b ⟨n, blk, ln, h1, _⟩ => (by cases h1), fun b hb => .inl hb⟩
   · rfl
   · show Value.int .i64 (lenB n) = Value.int .i64 (lenB n); rfl
def TSE0 : List (Nat × Sig) := (105, sLen) :: TSD2
theorem TSE0_ok : SigsOk Try.prog E0 TSE0 := TSD2_ok.cons (runs 105 (by kernel_rfl)) q105
theorem q93 (n : Nat) (h : sLen.pre n) : CallQ Try.prog E0 93 (sLen.arg n) (sLen.res n) := by
 refine bare_say E0_ok TSE0 TSE0_ok [] EvensOk.nil runs {} (fuel := 5) ?_
 refine of_red (q := ∃ (x : Nat), ((True∧(↑n : Int) = (↑x : Int))∧True)∧x≤(8 : Nat)∧True∧lenB x = lenB n) (by kernel_rfl) ?_
 simp only [true_and, and_true, inR, Prod.exists, Prod.forall, and_assoc, exists_and_left, exists_eq_left', exists_eq_left, forall_eq, exists_const, forall_const, loopN, loopM, fa2, fas, fas2, dup1, dup2, dup3, dup4, ite_true, exhs, exhn, exhz, exho, exA, ex1, ex2, ex3, ex4, ex5, beqI, bneI, decide_true, Bool.true_and, decide_eq_true_eq, decide_eq_false_iff_not, ne_eq, Decidable.not_not]
 have h8 : n ≤ 8 := h
 exact h8
def TSE1 : List (Nat × Sig) := (93, sLen) :: (96, sIns) :: TSE0
theorem TSE1_ok : SigsOk Try.prog E0 TSE1 := (TSE0_ok.cons (runs 96 (by kernel_rfl)) q96).cons (runs 93 (by kernel_rfl)) q93
def sPdq : Sig := ⟨Nat × ShV × Int, fun x => [.c (shrsCV x.1 x.2.1), intC 0, intC x.1, intC x.2.2, .c cmpC], fun x => x.1 ≤ 8 ∧ Nms x.1 x.2.1.nf, fun _ => []⟩
def aPdq (n : Nat) (L : Int) : Ann := { G := Unit, ok := fun _ _ => True, dom := fun _ => [], tm := fun _ _ => [(1, .t (intC 0)), (2, .t (intC n)), (3, .t (intC L)), (10, .t (.c .tt)), (11, .t (.c .tt))], hp := fun _ _ => [], mu := fun _ _ => 0 }
theorem q92 (x : sPdq.α) (h : sPdq.pre x) : CallQ Try.prog E0 92 (sPdq.arg x) (sPdq.res x) := by
 obtain ⟨n, x, L⟩ := x
 refine bare_say E0_ok TSE1 TSE1_ok [] EvensOk.nil runs { l := [(92, 2, aPdq n L)] } (fuel := 5) ?_
 refine of_red (q := (∃ (g : Unit), True∧True∧((True∧(0 : Int) = (0 : Int))∧(True∧(↑n : Int) = (↑n : Int))∧(True∧(x, L).snd = L)∧(True∧True)∧(True∧True)∧True)∧True)∧∀ (g : Unit), True→inRange IntKind.i64 ((↑n : Int) - (0 : Int))∧(decide ((↑n : Int) - (0 : Int)≤(12 : Int)) = true→∃ (x_1 : Nat × ShV), ((True∧True∧n = x_1.fst∧∀ (i : Nat), i < n→((((True∧(x, L).fst.nf i = x_1.snd.nf i)∧(x, L).fst.W i = x_1.snd.W i)∧(x, L).fst.G i = x_1.snd.G i)∧(x, L).fst.R = x_1.snd.R)∧(↑i : Int) = (↑i : Int))∧(True∧(0 : Int) = (0 : Int))∧(True∧(↑n : Int) = (↑x_1.fst : Int))∧(True∧(CV.fn (83 : FuncId) [] (fun (x x_2 : Nat) => CV.any) (0 : Nat) fun (x : Nat) => CV.any) = CV.fn (83 : FuncId) [] (fun (x x_2 : Nat) => CV.any) (0 : Nat) fun (x : Nat) => CV.any)∧True)∧(x_1.fst≤(8 : Nat)∧Nms x_1.fst x_1.snd.nf)∧True)∧(decide ((↑n : Int) - (0 : Int)≤(12 : Int)) = false→((L == (0 : Int)) = true→False)∧((L == (0 : Int)) = false→False))) (by kernel_rfl) ?_
 simp only [true_and, and_true, inR, Prod.exists, Prod.forall, and_assoc, exists_and_left, exists_eq_left', exists_eq_left, forall_eq, exists_const, forall_const, loopN, loopM, fa2, fas, fas2, dup1, dup2, dup3, dup4, ite_true, exhs, exhn, exhz, exho, exA, ex1, ex2, ex3, ex4, ex5, beqI, bneI, decide_true, Bool.true_and, decide_eq_true_eq, decide_eq_false_iff_not, ne_eq, Decidable.not_not]
 obtain ⟨h8, hn⟩ : n ≤ 8 ∧ Nms n x.nf := h
 exact ⟨by omega, by omega, fun _ => ⟨x, fun _ _ => ⟨rfl, rfl, rfl, rfl⟩, h8, hn⟩, fun _ => by omega⟩
def TSE2 : List (Nat × Sig) := (92, sPdq) :: TSE1
theorem TSE2_ok : SigsOk Try.prog E0 TSE2 := TSE1_ok.cons (runs 92 (by kernel_rfl)) q92
def sSrt : Sig := ⟨Nat × ShV, fun x => [.c (shrsCV x.1 x.2), .c cmpC], fun x => x.1 ≤ 8 ∧ Nms x.1 x.2.nf, fun _ => []⟩
theorem q87 (x : sSrt.α) (h : sSrt.pre x) : CallQ Try.prog E0 87 (sSrt.arg x) (sSrt.res x) := by
 obtain ⟨n, x⟩ := x
 refine bare_say E0_ok TSE2 TSE2_ok [] EvensOk.nil runs {} (fuel := 5) ?_
 refine of_red (q := inRange IntKind.u64 (↑n : Int)∧∃ (x_1 : Nat), ((True∧(↑n : Int) = (↑x_1 : Int))∧True)∧x_1≤(8 : Nat)∧∃ (x_2 : Nat × ShV × Int), ((True∧True∧n = x_2.fst∧∀ (i : Nat), i < n→((((True∧x.nf i = x_2.snd.fst.nf i)∧x.W i = x_2.snd.fst.W i)∧x.G i = x_2.snd.fst.G i)∧x.R = x_2.snd.fst.R)∧(↑i : Int) = (↑i : Int))∧(True∧(0 : Int) = (0 : Int))∧(True∧(↑n : Int) = (↑x_2.fst : Int))∧(True∧lenB x_1 = x_2.snd.snd)∧(True∧(CV.fn (83 : FuncId) [] (fun (x x_3 : Nat) => CV.any) (0 : Nat) fun (x : Nat) => CV.any) = CV.fn (83 : FuncId) [] (fun (x x_3 : Nat) => CV.any) (0 : Nat) fun (x : Nat) => CV.any)∧True)∧(x_2.fst≤(8 : Nat)∧Nms x_2.fst x_2.snd.fst.nf)∧True) (by kernel_rfl) ?_
 simp only [true_and, and_true, inR, Prod.exists, Prod.forall, and_assoc, exists_and_left, exists_eq_left', exists_eq_left, forall_eq, exists_const, forall_const, loopN, loopM, fa2, fas, fas2, dup1, dup2, dup3, dup4, ite_true, exhs, exhn, exhz, exho, exA, ex1, ex2, ex3, ex4, ex5, beqI, bneI, decide_true, Bool.true_and, decide_eq_true_eq, decide_eq_false_iff_not, ne_eq, Decidable.not_not]
 obtain ⟨h8, hn⟩ : n ≤ 8 ∧ Nms n x.nf := h
 exact ⟨⟨by show (0 : Int) ≤ n; omega, by show (n : Int) ≤ 18446744073709551615; omega⟩, h8, x, fun _ _ => ⟨rfl, rfl, rfl, rfl⟩, h8, hn⟩
end Go.Proofs.Ytpigkgoooekcgaa
namespace Go.Proofs.Ytpigkgoooekcgaa
open Go Go.Sx Bm
set_option maxRecDepth 100000
set_option maxHeartbeats 4000000
structure DvIn where
 n : Nat
 nf : Nat → ByteArray
 W : Nat → Int
 all : Int
 R : Int
def dvS (x : DvIn) : Int := sm x.W x.n
def dvG (x : DvIn) (i : Nat) : Int := x.all * x.W i / dvS x
def dvL (x : DvIn) : Int := x.all - sm (dvG x) x.n
def dvO (x : DvIn) (i : Nat) : Int := dvG x i + if (i : Int) < dvL x then 1 else 0
structure DvIn.ok (x : DvIn) : Prop where
 n1 : 1 ≤ x.n
 n8 : x.n ≤ 8
 nm : Nms x.n x.nf
 W : ∀ i, i < x.n → 0 ≤ x.W i ∧ x.W i ≤ 1000
 a0 : 0 ≤ x.all
 a1 : x.all ≤ 10000000
 S0 : 0 < dvS x
 r : ∀ i, i < x.n → x.all * x.W i % dvS x = x.R
theorem sm_ge {f : Nat → Int} : ∀ {n : Nat}, (∀ i, i < n → 0 ≤ f i) → ∀ i, i < n → f i ≤ sm f n
 | 0, _, i, hi => absurd hi (Nat.not_lt_zero i)
 | n + 1, h, i, hi => by
   have e : sm f (n + 1) = sm f n + f n := rfl
   have h0 := h n (by omega)
   have hs : 0 ≤ sm f n := by
     have h1 := sm_le (f := fun _ => 0) (g := f) (n := n) fun j hj => h j (by omega)
     rw [sm_const, Int.mul_zero] at h1
     exact h1
   by_cases c : i = n
   · rw [c, e]; omega
   · have := sm_ge (n := n) (fun j hj => h j (by omega)) i (by omega)
     omega
theorem dvG_bd {x : DvIn} (h : x.ok) {i : Nat} (hi : i < x.n) : 0 ≤ dvG x i ∧ dvG x i ≤ 10000000 ∧ 0 ≤ x.all * x.W i ∧ x.all * x.W i ≤ 10000000000 := by
 obtain ⟨w0, w1⟩ := h.W i hi
 have p0 : 0 ≤ x.all * x.W i := Int.mul_nonneg h.a0 w0
 have p1 : x.all * x.W i ≤ 10000000 * 1000 := Int.mul_le_mul h.a1 w1 w0 (by decide)
 have ws := sm_ge (f := x.W) (n := x.n) (fun j hj => (h.W j hj).1) i hi
 have p2 : x.all * x.W i ≤ x.all * dvS x := Int.mul_le_mul_of_nonneg_left ws h.a0
 have g0 : 0 ≤ dvG x i := Int.ediv_nonneg p0 (Int.le_of_lt h.S0)
 have g1 : dvG x i ≤ x.all := by
   have := Int.ediv_le_ediv h.S0 p2
   rwa [Int.mul_ediv_cancel _ (Int.ne_of_gt h.S0)] at this
 have := h.a1
 exact ⟨g0, by omega, p0, by omega⟩
def dvV (x : DvIn) : ShV := ⟨x.nf, x.W, dvG x, x.R⟩
def lpT (st : St) (t : Nat) : AV := match st.tm 0 with
 | .t (.c (.yl n)) => (match st.hp n with
   | some (.lp _ _ tm _ _ _ _ _) => tm t
   | _ => .any)
 | _ => .any
def ptrN (v : AV) : Nat := match v with
 | .t (.c (.ptr n _)) => n
 | _ => 0
def sDvd : Sig := ⟨DvIn, fun x => [intC x.all, .c (stksCV x.n x.nf x.W)], fun x => x.ok, fun x => [.own 3 1 x.n (fun i _ => .int .i64 (dvO x i))]⟩
def aDv1 (x : DvIn) : Ann := { G := Nat, ok := fun _ i => i ≤ x.n, dom := fun st => [osN (st.tm 17), st.nx], tm := fun st i => [(20, .t (intC i)), (7, .t (.c (.os st.nx 5 i)))], hp := fun st i => [(osN (st.tm 17), .self, some (.row 3 1 x.n (fun j _ => .int .i64 (if j < i then dvG x j else 0)))), (st.nx, .slot 7, some (.row 135 5 i (fun j => shrC (dvV x) j)))], mu := fun _ i => x.n - i }
def aDv2 (x : DvIn) : Ann := { G := Nat, ok := fun _ i => i ≤ x.n ∧ (i = 0 ∨ (i : Int) ≤ dvL x), dom := fun st => [ptrN (st.tm 2), osN (lpT st 17)], tm := fun _ i => [(14, .t (intC i))], hp := fun st i => [(ptrN (st.tm 2), .self, some (.box 1 (fun _ => .int .i64 (dvL x - i)))), (osN (lpT st 17), .self, some (.row 3 1 x.n (fun j _ => .int .i64 (if j < i then dvG x j + 1 else dvG x j))))], mu := fun _ i => x.n - i }
def TSF0 : List (Nat × Sig) := (87, sSrt) :: (50, sSm) :: (51, sWgt) :: TSE2
theorem TSF0_ok : SigsOk Try.prog E0 TSF0 := ((TSE2_ok.cons (runs 51 (by kernel_rfl)) q51).cons (runs 50 (by kernel_rfl)) q50).cons (runs 87 (by kernel_rfl)) q87
theorem q52 (x : sDvd.α) (h : sDvd.pre x) : CallQ Try.prog E0 52 (sDvd.arg x) (sDvd.res x) := by
 refine bare_say E0_ok TSF0 TSF0_ok [] EvensOk.nil runs { l := [(52, 5, aDv1 x), (82, 3, aDv2 x)] } (fuel := 9) ?_
 refine of_red (q := ∃ (x_1 : Nat × (Nat→ByteArray) × (Nat→Int)), ((True∧True∧x.n = x_1.fst∧∀ (i : Nat), i < x.n→(True∧x.nf i = x_1.snd.fst i)∧x.W i = x_1.snd.snd i)∧True)∧x_1.fst≤(8 : Nat)∧∃ (x_2 : Nat × (Nat→Int)), ((True∧True∧x_1.fst = x_2.fst∧∀ (i : Nat), i < x_1.fst→True∧x_1.snd.snd i = x_2.snd i)∧True)∧(x_2.fst≤(10 : Nat)∧∀ (i : Nat), i < x_2.fst→(0 : Int)≤x_2.snd i∧x_2.snd i≤(10000000 : Int))∧(0 : Int)≤(↑x.n : Int)∧(↑x.n : Int) = (↑x.n : Int)∧(↑(8 : Nat) : Int) * (↑x.n : Int)≤(140737488355328 : Int)∧(↑x.n : Int) < (4611686018427387904 : Int)∧(∃ (g : Nat), g≤x.n∧True∧((True∧(0 : Int) = (↑g : Int))∧(True∧g = (0 : Nat))∧True)∧(True∧True∧x.n = x.n∧∀ (i : Nat), i < x.n→True∧(0 : Int) = if i < g then dvG x i else (0 : Int))∧g = (0 : Nat)∧True)∧∀ (g : Nat), g≤x.n→(decide ((↑g : Int) < (↑x.n : Int)) = true→(0 : Int)≤(↑g : Int)∧(↑g : Int) < (↑x.n : Int)∧inRange IntKind.i64 (x.all * x.W g)∧sm x_2.snd x_2.fst ≠ (0 : Int)∧inRange IntKind.i64 ((x.all * x.W g).tdiv (sm x_2.snd x_2.fst))∧inRange IntKind.i64 (x.all * x.W g)∧sm x_2.snd x_2.fst ≠ (0 : Int)∧(0 : Int)≤(↑g : Int)∧(↑g : Int) < (↑x.n : Int)∧(g + (1 : Nat)) * (48 : Nat)≤(140737488355328 : Nat)∧g + (1 : Nat) < (4611686018427387904 : Nat)∧inRange IntKind.i64 ((↑g : Int) + (1 : Int))∧∃ (g' : Nat), g'≤x.n∧x.n - g' < x.n - g∧True∧((True∧(↑g : Int) + (1 : Int) = (↑g' : Int))∧(True∧True∧g + (1 : Nat) = g')∧True)∧(True∧True∧x.n = x.n∧∀ (i : Nat), i < x.n→True∧(if i = g then (x.all * x.W g).tdiv (sm x_2.snd x_2.fst) else if i < g then dvG x i else (0 : Int)) = if i < g' then dvG x i else (0 : Int))∧(True∧True∧g + (1 : Nat) = g'∧∀ (i : Nat), i < g + (1 : Nat)→((((True∧fitP (if i < g then shrC (dvV x) i 0 else if i - g = (0 : Nat) then ((5 : Nat), ((5 : Nat), fun (j : Nat) => if j = nat_lit 3 + (1 : Nat) then ((1 : Nat), fun (x : Nat) => CV.int IntKind.i64 (↑g : Int)).snd (0 : Nat) else if j = nat_lit 2 + (1 : Nat) then ((1 : Nat), fun (x_3 : Nat) => CV.int IntKind.i64 ((x.all * x.W g).tmod (sm x_2.snd x_2.fst))).snd (0 : Nat) else if j = nat_lit 1 + (1 : Nat) then ((1 : Nat), fun (x_3 : Nat) => CV.int IntKind.i64 ((x.all * x.W g).tdiv (sm x_2.snd x_2.fst))).snd (0 : Nat) else if j < (0 : Nat) + ((2 : Nat), ((2 : Nat), stkC x.nf x.W g).snd).fst then ((2 : Nat), ((2 : Nat), stkC x.nf x.W g).snd).snd (j - (0 : Nat)) else [CV.str (ByteArray.mk #[]), CV.int IntKind.i64 (0 : Int), CV.int IntKind.i64 (0 : Int), CV.int IntKind.i64 (0 : Int), CV.int IntKind.i64 (0 : Int)].getD j CV.any).snd).snd 0 else [CV.str (ByteArray.mk #[]), CV.int IntKind.i64 (0 : Int), CV.int IntKind.i64 (0 : Int), CV.int IntKind.i64 (0 : Int), CV.int IntKind.i64 (0 : Int)].getD 0 CV.any) (shrC (dvV x) i 0))∧(if i < g then (dvV x).W i else if i - g = (0 : Nat) then x.W g else (0 : Int)) = (dvV x).W i)∧(if i < g then (dvV x).G i else if i - g = (0 : Nat) then (x.all * x.W g).tdiv (sm x_2.snd x_2.fst) else (0 : Int)) = (dvV x).G i)∧(if i < g then (dvV x).R else if i - g = (0 : Nat) then (x.all * x.W g).tmod (sm x_2.snd x_2.fst) else (0 : Int)) = (dvV x).R)∧(if i < g then (↑i : Int) else if i - g = (0 : Nat) then (↑g : Int) else (0 : Int)) = (↑i : Int))∧True)∧(decide ((↑g : Int) < (↑x.n : Int)) = false→∃ (x_3 : Nat × (Nat→Int)), ((True∧True∧x.n = x_3.fst∧∀ (i : Nat), i < x.n→True∧(if i < g then dvG x i else (0 : Int)) = x_3.snd i)∧True)∧(x_3.fst≤(10 : Nat)∧∀ (i : Nat), i < x_3.fst→(0 : Int)≤x_3.snd i∧x_3.snd i≤(10000000 : Int))∧inRange IntKind.i64 (x.all - sm x_3.snd x_3.fst)∧∃ (x_4 : Nat × ShV), ((True∧True∧g = x_4.fst∧∀ (i : Nat), i < g→((((True∧(dvV x).nf i = x_4.snd.nf i)∧(dvV x).W i = x_4.snd.W i)∧(dvV x).G i = x_4.snd.G i)∧(dvV x).R = x_4.snd.R)∧(↑i : Int) = (↑i : Int))∧(True∧(CV.fn (83 : Nat) [] (fun (x x_5 : Nat) => CV.any) (0 : Nat) fun (x : Nat) => CV.any) = CV.fn (83 : FuncId) [] (fun (x x_5 : Nat) => CV.any) (0 : Nat) fun (x : Nat) => CV.any)∧True)∧(x_4.fst≤(8 : Nat)∧Nms x_4.fst x_4.snd.nf)∧(∃ (g_1 : Nat), (g_1≤x.n∧(g_1 = (0 : Nat)∨(↑g_1 : Int)≤dvL x))∧True∧((True∧(0 : Int) = (↑g_1 : Int))∧True)∧(True∧True∧True∧x.all - sm x_3.snd x_3.fst = dvL x - (↑g_1 : Int))∧(True∧True∧x.n = x.n∧∀ (i : Nat), i < x.n→True∧(if i < g then dvG x i else (0 : Int)) = if i < g_1 then dvG x i + (1 : Int) else dvG x i)∧True)∧∀ (g_1 : Nat), g_1≤x.n∧(g_1 = (0 : Nat)∨(↑g_1 : Int)≤dvL x)→(decide ((↑g_1 : Int) < (↑g : Int)) = true→(0 : Int)≤(↑g_1 : Int)∧(↑g_1 : Int) < (↑g : Int)∧inRange IntKind.i64 (dvL x - (↑g_1 : Int) - (1 : Int))∧(decide (dvL x - (↑g_1 : Int) - (1 : Int) < (0 : Int)) = true→True∧x.n = x.n∧True∧True∧x.n = x.n∧∀ (i : Nat), i < x.n→True∧(if i < g_1 then dvG x i + (1 : Int) else dvG x i) = dvO x i)∧(decide (dvL x - (↑g_1 : Int) - (1 : Int) < (0 : Int)) = false→((((dvV x).nf g_1).toList == (ByteArray.mk #[]).toList && ((dvV x).W g_1 == (0 : Int) && true) && ((dvV x).G g_1 == (0 : Int) && ((dvV x).R == (0 : Int) && ((↑g_1 : Int) == (0 : Int) && true)))) = true→True∧x.n = x.n∧True∧True∧x.n = x.n∧∀ (i : Nat), i < x.n→True∧(if i < g_1 then dvG x i + (1 : Int) else dvG x i) = dvO x i)∧((((dvV x).nf g_1).toList == (ByteArray.mk #[]).toList && ((dvV x).W g_1 == (0 : Int) && true) && ((dvV x).G g_1 == (0 : Int) && ((dvV x).R == (0 : Int) && ((↑g_1 : Int) == (0 : Int) && true)))) = false→(0 : Int)≤(↑g_1 : Int)∧(↑g_1 : Int) < (↑x.n : Int)∧inRange IntKind.i64 ((if g_1 < g_1 then dvG x g_1 + (1 : Int) else dvG x g_1) + (1 : Int))∧(0 : Int)≤(↑g_1 : Int)∧(↑g_1 : Int) < (↑x.n : Int)∧inRange IntKind.i64 ((↑g_1 : Int) + (1 : Int))∧∃ (g' : Nat), (g'≤x.n∧(g' = (0 : Nat)∨(↑g' : Int)≤dvL x))∧x.n - g' < x.n - g_1∧True∧((True∧(↑g_1 : Int) + (1 : Int) = (↑g' : Int))∧True)∧(True∧True∧True∧dvL x - (↑g_1 : Int) - (1 : Int) = dvL x - (↑g' : Int))∧(True∧True∧x.n = x.n∧∀ (i : Nat), i < x.n→True∧(if i = g_1 then (if g_1 < g_1 then dvG x g_1 + (1 : Int) else dvG x g_1) + (1 : Int) else if i < g_1 then dvG x i + (1 : Int) else dvG x i) = if i < g' then dvG x i + (1 : Int) else dvG x i)∧True)))∧(decide ((↑g_1 : Int) < (↑g : Int)) = false→True∧x.n = x.n∧True∧True∧x.n = x.n∧∀ (i : Nat), i < x.n→True∧(if i < g_1 then dvG x i + (1 : Int) else dvG x i) = dvO x i))) (by kernel_rfl) ?_
 simp only [true_and, and_true, inR, Prod.exists, Prod.forall, and_assoc, exists_and_left, exists_eq_left', exists_eq_left, forall_eq, exists_const, forall_const, loopN, loopM, fa2, fas, fas2, dup1, dup2, dup3, dup4, ite_true, exhs, exhn, exhz, exho, exA, ex1, ex2, ex3, ex4, ex5, beqI, bneI, decide_true, Bool.true_and, decide_eq_true_eq, decide_eq_false_iff_not, ne_eq, Decidable.not_not]
 have hok : x.ok := h
 have n1 := hok.n1
 have n8 := hok.n8
 have S0 := hok.S0
 have eS : sm x.W x.n = dvS x := rfl
 have wb := sm_bd (f := x.W) (K := 1000) (n := x.n) hok.W
 have gb := sm_bd (f := dvG x) (K := 10000000) (n := x.n) fun i hi => ⟨(dvG_bd hok hi).1, (dvG_bd hok hi).2.1⟩
 have eL : x.all - sm (dvG x) x.n = dvL x := rfl
 have a0 := hok.a0
 have a1 := hok.a1
 refine ⟨x.nf, x.W, fun _ _ => ⟨rfl, rfl⟩, n8, x.W, fun _ _ => rfl, by omega, fun i hi => ⟨(hok.W i hi).1, by have := (hok.W i hi).2; omega⟩, by omega, by omega, by omega, Nat.zero_le _, rfl, fun i _ => (if_neg (Nat.not_lt_zero i)).symm, fun g hg => ?_, dvG x, fun i hi => if_pos hi, by omega, fun i hi => ⟨(dvG_bd hok hi).1, (dvG_bd hok hi).2.1⟩, by omega, by omega, dvV x, fun _ _ => ⟨rfl, rfl, rfl, rfl⟩, n8, hok.nm, ⟨0, Nat.zero_le _, .inl rfl, rfl, by omega, fun i hi => by rw [if_pos hi, if_neg (Nat.not_lt_zero i)]⟩, fun g hg hc => ⟨by omega, by omega, by omega, by omega, fun hl i hi => ?_, fun hl => ⟨fun he => ?_, fun _ => ?_⟩⟩, fun hc i hi => ?_⟩
 · obtain ⟨b1, b2, b3, b4⟩ := dvG_bd hok hg
   have et : (x.all * x.W g).tdiv (sm x.W x.n) = dvG x g := Int.tdiv_eq_ediv_of_nonneg b3
   have er : (x.all * x.W g).tmod (sm x.W x.n) = x.R := by rw [Int.tmod_eq_emod_of_nonneg b3]; exact hok.r g hg
   rw [et]
   try rw [er]
   refine ⟨by omega, by omega, by omega, by omega, by omega, by omega, by omega, by omega, by omega, by omega, by omega, by omega, by omega, by omega, by omega, by omega, g + 1, by omega, by omega, by omega, rfl, fun i hi => ?_, rfl, fun i hi => ?_⟩
   · by_cases c : i = g
     · subst c; rw [if_pos rfl, if_pos (by omega)]
     · rw [if_neg c]
       by_cases d : i < g
       · rw [if_pos d, if_pos (by omega)]
       · rw [if_neg d, if_neg (by omega)]
   · by_cases c : i < g
     · simp only [if_pos c]
       refine ⟨rfl, ?_, ?_, ?_, ?_⟩ <;> first | trivial | rfl
     · obtain rfl : i = g := by omega
       simp only [Nat.lt_irrefl, if_false, Nat.sub_self, if_true]
       refine ⟨rfl, ?_, ?_, ?_, ?_⟩ <;> first | trivial | rfl
 · unfold dvO
   by_cases d : i < g
   · rw [if_pos d, if_pos (by omega)]
   · rw [if_neg d, if_neg (by omega), Int.add_zero]
 · exfalso
   simp only [Bool.and_eq_true] at he
   have h1 := he.1.1
   have h2 := hok.nm.no g hg
   exact Bool.noConfusion (h1.symm.trans h2)
 · obtain ⟨b1, b2, b3, b4⟩ := dvG_bd hok hg
   rw [if_neg (Nat.lt_irrefl g)]
   refine ⟨by omega, by omega, by omega, by omega, by omega, by omega, by omega, by omega, g + 1, by omega, by omega, by omega, rfl, by omega, fun i hi => ?_⟩
   by_cases c : i = g
   · subst c; rw [if_pos rfl, if_pos (by omega)]
   · rw [if_neg c]
     by_cases d : i < g
     · rw [if_pos d, if_pos (by omega)]
     · rw [if_neg d, if_neg (by omega)]
 · unfold dvO
   rw [if_pos hi, if_pos (by omega)]
end Go.Proofs.Ytpigkgoooekcgaa
namespace Go.Proofs.Ytpigkgoooekcgaa
open Go Go.Sx Bm
set_option maxRecDepth 100000
set_option maxHeartbeats 4000000
theorem first76 (b o cap : Nat) (s1 s2 : Value) (L M : Int) (w : World) (hb : b < w.heap.size) (hc : w.cell? ⟨b, o, none⟩ = some (.int .i64 10)) (hcap : 1 ≤ cap) :
   Calls Try.prog 76 #[.agg #[.slice (some ⟨b, o, none⟩) 1 cap, s1, s2, .int .i64 L, .int .i64 M]] w fun e w' => e = .returned (.agg #[.int .i64 10, .int .i64 0, .int .i64 0, .int .i64 0, .int .i64 0, .int .i64 0]) ∧ RowKit.Below w.heap.size w w' := by
 go_enter Try.func76, Try.ntmps76
 go_wp2
 generalize hW : World.alloc (World.alloc (World.alloc w _) _) _ = W
 have h0 : W.cell? ⟨w.heap.size, 0, none⟩ = some (.slice (some ⟨b, o, none⟩) 1 cap) := by
   rw [← hW, World.cell?_alloc_lt _ _ _ (by simp; omega), World.cell?_alloc_lt _ _ _ (by simp), World.cell?_alloc_new]; rfl
 have hg : W.heap[w.heap.size + 1 + 1]? = some (.cells #[.int .i64 0, .int .i64 0, .int .i64 0, .int .i64 0, .int .i64 0, .int .i64 0] 143 (0, 0)) := by
   rw [← hW]
   show ((w.heap.push _).push _ |>.push _)[_]? = _
   rw [show w.heap.size + 1 + 1 = ((w.heap.push (Obj.cells #[Value.slice (some ⟨b, o, none⟩) 1 cap, s1, s2, Value.int IntKind.i64 L, Value.int IntKind.i64 M] 139 (0, 0))).push (Obj.cells #[.int .i64 0, .int .i64 0, .int .i64 0, .int .i64 0, .int .i64 0, .int .i64 0] 143 (0, 0))).size by rw [Array.size_push, Array.size_push]]
   exact Array.getElem?_push_size
 have hm : W.heap[w.heap.size + 1]? = some (.cells #[.int .i64 0, .int .i64 0, .int .i64 0, .int .i64 0, .int .i64 0, .int .i64 0] 143 (0, 0)) := by
   rw [← hW]
   show ((w.heap.push _).push _ |>.push _)[_]? = _
   rw [Array.getElem?_push, if_neg (by rw [Array.size_push, Array.size_push]; omega)]
   rw [show w.heap.size + 1 = (w.heap.push (Obj.cells #[Value.slice (some ⟨b, o, none⟩) 1 cap, s1, s2, Value.int IntKind.i64 L, Value.int IntKind.i64 M] 139 (0, 0))).size by rw [Array.size_push]]
   exact Array.getElem?_push_size
 have h1 : W.cell? ⟨b, o, none⟩ = some (.int .i64 10) := by
   rw [← hW, World.cell?_alloc_lt _ _ _ (by simp; omega), World.cell?_alloc_lt _ _ _ (by simp; omega), World.cell?_alloc_lt _ _ _ (by simp; omega)]; exact hc
 go_still_tail 4, (by kernel_rfl)
 change wpList _ _ _ _ _ W.drew
 refine wpList_copy_own rfl (.tmp 4) (.tmp 7) 27 27 rfl 3 (by kernel_rfl) (by kernel_rfl) (w.heap.size + 1 + 1) 0 6 6 ⟨b, o, none⟩ 1 cap rfl rfl _ 143 hg [.int .i64 10] rfl (fun j v hj => ?_) (by simp) (by simp [Value.oneCell']) ?_
 · match j, hj with
   | 0, hj => injection hj with hj; subst hj; exact h1
 · change wpList _ _ _ [] _ (W.drew.setRow _ #[.int .i64 10, .int .i64 0, .int .i64 0, .int .i64 0, .int .i64 0, .int .i64 0])
   have k0 := fun j => cell_setRow_same W.drew (w.heap.size + 1 + 1) j _ #[.int .i64 10, .int .i64 0, .int .i64 0, .int .i64 0, .int .i64 0, .int .i64 0] 143 (0, 0) hg
   have k1 := (setRow_other W.drew (w.heap.size + 1 + 1) (w.heap.size + 1) #[.int .i64 10, .int .i64 0, .int .i64 0, .int .i64 0, .int .i64 0, .int .i64 0] (by omega)).trans hm
   have k2 : RowKit.Below w.heap.size w (W.drew.setRow (w.heap.size + 1 + 1) #[.int .i64 10, .int .i64 0, .int .i64 0, .int .i64 0, .int .i64 0, .int .i64 0]) := by
     refine RowKit.Below.trans (b := W) ?_ ⟨rfl, rfl, rfl, by simp, fun k hk => setRow_other W.drew _ k _ (by omega)⟩
     rw [← hW]
     refine ⟨rfl, rfl, rfl, by simp; omega, fun k hk => ?_⟩
     show ((w.heap.push _).push _ |>.push _)[k]? = _
     rw [Array.getElem?_push, if_neg (by rw [Array.size_push, Array.size_push]; omega), Array.getElem?_push, if_neg (by rw [Array.size_push]; omega), Array.getElem?_push, if_neg (by omega)]
   generalize hU : W.drew.setRow (w.heap.size + 1 + 1) #[.int .i64 10, .int .i64 0, .int .i64 0, .int .i64 0, .int .i64 0, .int .i64 0] = U at k0 k1 k2 ⊢
   have a0 := k0 0
   have a1 := k0 1
   have a2 := k0 2
   have a3 := k0 3
   have a4 := k0 4
   have a5 := k0 5
   simp only [List.getElem?_toArray, List.getElem?_cons_zero, List.getElem?_cons_succ] at a0 a1 a2 a3 a4 a5
   have b' : ∀ j, U.cell? ⟨w.heap.size + 1, j, none⟩ = (#[Value.int .i64 0, .int .i64 0, .int .i64 0, .int .i64 0, .int .i64 0, .int .i64 0] : Array Value)[j]? := fun j => by
     unfold World.cell?
     simp only [k1]
     rfl
   have b0 := b' 0
   have b1 := b' 1
   have b2 := b' 2
   have b3 := b' 3
   have b4 := b' 4
   have b5 := b' 5
   simp only [List.getElem?_toArray, List.getElem?_cons_zero, List.getElem?_cons_succ] at b0 b1 b2 b3 b4 b5
   have f' : ∀ j, U.frozen? ⟨w.heap.size + 1, j, none⟩ = false := fun j => by
     unfold World.frozen?
     simp only [k1]
     simp
   have f0 := f' 0
   have f1 := f' 1
   have f2 := f' 2
   have f3 := f' 3
   have f4 := f' 4
   have f5 := f' 5
   clear f' k0 b' hg hm h1 h0 hW hU k1
   go_wp2
   generalize hV : World.setCell (World.setCell (World.setCell (World.setCell (World.setCell (World.setCell U _ _) _ _) _ _) _ _) _ _) _ _ = V
   have c0 : V.cell? ⟨w.heap.size + 1, 0, none⟩ = some (.int .i64 10) := by rw [← hV]; clear hV; go_simp
   have c1 : V.cell? ⟨w.heap.size + 1, 1, none⟩ = some (.int .i64 0) := by rw [← hV]; clear hV; go_simp
   have c2 : V.cell? ⟨w.heap.size + 1, 2, none⟩ = some (.int .i64 0) := by rw [← hV]; clear hV; go_simp
   have c3 : V.cell? ⟨w.heap.size + 1, 3, none⟩ = some (.int .i64 0) := by rw [← hV]; clear hV; go_simp
   have c4 : V.cell? ⟨w.heap.size + 1, 4, none⟩ = some (.int .i64 0) := by rw [← hV]; clear hV; go_simp
   have c5 : V.cell? ⟨w.heap.size + 1, 5, none⟩ = some (.int .i64 0) := by rw [← hV]; clear hV; go_simp
   have k3 : RowKit.Below w.heap.size w V := by
     rw [← hV]
     exact (((((k2.setCell (by simp) _).setCell (by simp) _).setCell (by simp) _).setCell (by simp) _).setCell (by simp) _).setCell (by simp) _
   clear hV a0 a1 a2 a3 a4 a5 b0 b1 b2 b3 b4 b5 f0 f1 f2 f3 f4 f5
   refine bodyPost_ret (v := .agg #[.int .i64 10, .int .i64 0, .int .i64 0, .int .i64 0, .int .i64 0, .int .i64 0]) ?_ rfl ⟨rfl, k3⟩
   have hres : Try.f76.results = #[.cell 2 143] := by kernel_rfl
   unfold results
   rw [hres]
   go_simp
theorem evo_below {Z : Nat → Prop} {w w' : World} (h : RowKit.Below w.heap.size w w') : Evo (fun _ => False) Z w Z w' := by
 refine ⟨h.os, h.tape, h.output, h.size, fun b hb _ => h.block b hb, fun b cs e hc => ⟨cs, ?_, rfl⟩, fun b r hr => ⟨r, ?_, rfl, rfl, rfl, rfl, rfl, rfl⟩, fun _ h => h⟩
 · rw [h.block b (Array.getElem?_eq_some_iff.1 hc).1]; exact hc
 · rw [h.block b (Array.getElem?_eq_some_iff.1 hr).1]; exact hr
def i1 (n : Int) : CV := .vs 1 1 (fun _ _ => .int .i64 n)
def raceC : Nat → CV := ofList [i1 10, i1 500, i1 2, .int .i64 0, .int .i64 0]
def sFst : Sig := ⟨Unit, fun _ => [.a 5 raceC], fun _ => True, fun _ => [.v (.a 6 (ofList [.int .i64 10, .int .i64 0, .int .i64 0, .int .i64 0, .int .i64 0, .int .i64 0]))]⟩
theorem q76 (x : sFst.α) : CallQ Try.prog E0 76 (sFst.arg x) (sFst.res x) := by
 intro Z w vs hs hr
 match vs, hr with
 | [u], hr =>
   obtain ⟨cs, rfl, hn, hc⟩ := hr.1
   obtain ⟨u0, h0, a, cap, rfl, hle, hp⟩ := hc 0 (by omega)
   obtain ⟨u1, h1, _⟩ := hc 1 (by omega)
   obtain ⟨u2, h2, _⟩ := hc 2 (by omega)
   obtain ⟨u3, h3, r3⟩ := hc 3 (by omega)
   obtain ⟨u4, h4, r4⟩ := hc 4 (by omega)
   obtain rfl : u3 = .int .i64 0 := r3
   obtain rfl : u4 = .int .i64 0 := r4
   obtain ⟨b, o, rfl, hz, hcell⟩ := hp (by decide)
   obtain ⟨v, hv, rv⟩ := hcell 0 (by decide) 0 (by decide)
   obtain rfl : v = .int .i64 10 := rv
   obtain rfl : cs = #[.slice (some ⟨b, o, none⟩) 1 cap, u1, u2, .int .i64 0, .int .i64 0] := by
     refine Array.ext_getElem? fun i => ?_
     match i with
     | 0 => exact h0
     | 1 => exact h1
     | 2 => exact h2
     | 3 => exact h3
     | 4 => exact h4
     | i + 5 => rw [Array.getElem?_eq_none (by omega), Array.getElem?_eq_none (by simp)]
   refine CallsIn.mono (callsIn_wide.2 (first76 b o cap u1 u2 0 0 w (hs.zlt b hz) hv hle)) fun e w' h => ?_
   obtain ⟨rfl, hb⟩ := h
   have ev := evo_below (Z := Z) hb
   have st : SatH E0 0 (fun n => ownCount (sFst.res x) ≤ n) (fun _ => .no) Z (fun _ => none) w' :=
     hs.step (ev.weaken fun b hb => hb.elim) (Ext.refl _) (fun n blk h => by cases h) (fun n m x y b l1 l2 h => by cases h) (fun b hb => Nat.lt_of_lt_of_le (hs.zlt b hb) ev.size) (fun n _ => rfl)
   refine ⟨_, fun _ => .no, Z, rfl, st, ⟨_, rfl, rfl, fun j hj => ?_⟩, ev, fun b ⟨n, blk, ln, h1, _⟩ => (by cases h1), fun b hb => .inl hb⟩
   match j, hj with
   | 0, _ => exact ⟨_, rfl, rfl⟩
   | 1, _ => exact ⟨_, rfl, rfl⟩
   | 2, _ => exact ⟨_, rfl, rfl⟩
   | 3, _ => exact ⟨_, rfl, rfl⟩
   | 4, _ => exact ⟨_, rfl, rfl⟩
   | 5, _ => exact ⟨_, rfl, rfl⟩
end Go.Proofs.Ytpigkgoooekcgaa
namespace Go.Proofs.Ytpigkgoooekcgaa
open Go Go.Sx Bm
set_option maxRecDepth 100000
set_option maxHeartbeats 4000000
instance (k : IntKind) (n : Int) : Decidable (inRange k n) := inferInstanceAs (Decidable (_ ∧ _))
theorem q73 : CallQ Try.prog E0 73 [.a 5 raceC] [.v (.c (.bool true))] := by
 refine bare_num E0_ok [] SigsOk.nil [] EvensOk.nil runs {} [(73, 4, 3)] (fuel := 8) ?_
 refine of_red (q := inRange IntKind.i64 ((↑(1 : Nat) : Int) - (1 : Int))∧(0 : Int)≤(0 : Int)∧(0 : Int) < (↑(1 : Nat) : Int)∧(0 : Int)≤(0 : Int)∧(0 : Int) < (↑(1 : Nat) : Int)∧(0 : Int)≤(0 : Int)∧(0 : Int) < (↑(1 : Nat) : Int)∧inRange IntKind.i64 ((0 : Int) + (1 : Int))∧True∧true = true) (by kernel_rfl) ?_
 repeat (refine And.intro (by decide) ?_)
 rfl
theorem q88 (x : sSm.α) (h : sSm.pre x) : CallQ Try.prog E0 88 (sSm.arg x) (sSm.res x) := by
 obtain ⟨n, f⟩ := x
 refine bare_say E0_ok [] SigsOk.nil [] EvensOk.nil runs { l := [(88, 3, aSm2 n f)] } (fuel := 5) ?_
 refine of_red (q := (∃ (g : Nat), g≤n∧True∧((True∧(0 : Int) = (↑g : Int))∧(True∧(0 : Int) = sm f g)∧True)∧True)∧∀ (g : Nat), g≤n→(decide ((↑g : Int) < (↑n : Int)) = true→(0 : Int)≤(↑g : Int)∧(↑g : Int) < (↑n : Int)∧inRange IntKind.i64 (sm f g + f g)∧inRange IntKind.i64 ((↑g : Int) + (1 : Int))∧∃ (g' : Nat), g'≤n∧n - g' < n - g∧True∧((True∧(↑g : Int) + (1 : Int) = (↑g' : Int))∧(True∧sm f g + f g = sm f g')∧True)∧True)∧(decide ((↑g : Int) < (↑n : Int)) = false→True∧sm f g = sm f n)) (by kernel_rfl) ?_
 simp only [true_and, and_true, inR, Prod.exists, Prod.forall, and_assoc, exists_and_left, exists_eq_left', exists_eq_left, forall_eq, exists_const, forall_const, loopN, loopM, fa2, fas, fas2, dup1, dup2, dup3, dup4, ite_true, exhs, exhn, exhz, exho, exA, ex1, ex2, ex3, ex4, ex5, beqI, bneI, decide_true, Bool.true_and, decide_eq_true_eq, decide_eq_false_iff_not, ne_eq, Decidable.not_not]
 obtain ⟨hn, hf⟩ : n ≤ 10 ∧ ∀ i, i < n → 0 ≤ f i ∧ f i ≤ 10000000 := h
 refine ⟨⟨0, Nat.zero_le _, rfl, rfl⟩, fun g hg => ?_⟩
 have b := sm_bd (f := f) (K := 10000000) (n := g + 1) fun i hi => hf i (by omega)
 have e : sm f (g + 1) = sm f g + f g := rfl
 exact ⟨by omega, by omega, by omega, by omega, by omega, by omega, g + 1, by omega, by omega, by omega, rfl⟩
def TSI0 : List (Nat × Sig) := (88, sSm) :: []
theorem TSI0_ok : SigsOk Try.prog E0 TSI0 := SigsOk.nil.cons (runs 88 (by kernel_rfl)) q88
def fish (n : Int) : Nat → CV := ofList [.int .i64 n, .int .i64 0, .int .i64 0, .int .i64 0, .int .i64 0, .int .i64 0]
def sYr : Sig := ⟨Unit, fun _ => [.a 5 raceC, .a 6 (fish 10), intC 4, intC 0], fun _ => True, fun _ => [.v (intC 12), .v (.a 6 (fish 3))]⟩
theorem q75 (x : sYr.α) : CallQ Try.prog E0 75 (sYr.arg x) (sYr.res x) := by
 refine bare_num E0_ok TSI0 TSI0_ok [] EvensOk.nil runs { o := [(75, 13, fun st => oT [(14, [19])] st), (75, 16, fun st => oT [(9, [4])] st)] } [(75, 3, 3), (75, 10, 3)] (fuel := 8) ?_
 refine of_red (q := inRange IntKind.i64 ((↑(1 : Nat) : Int) - (1 : Int))∧(0 : Int)≤Int.ofNat (0 : Nat)∧Int.ofNat (0 : Nat) < (↑(6 : Nat) : Int)∧(0 : Int)≤Int.ofNat (0 : Nat)∧Int.ofNat (0 : Nat) < (↑(6 : Nat) : Int)∧inRange IntKind.i64 (Int.ofNat (nat_lit 9 + (1 : Nat)) - imin (Int.ofNat (nat_lit 9 + (1 : Nat))) (4 : Int))∧inRange IntKind.i64 ((4 : Int) - imin (Int.ofNat (nat_lit 9 + (1 : Nat))) (4 : Int))∧(0 : Int)≤Int.ofNat (0 : Nat)∧Int.ofNat (0 : Nat) < (↑(6 : Nat) : Int)∧inRange IntKind.i64 (Int.ofNat (0 : Nat) - (1 : Int))∧inRange IntKind.i64 (Int.ofNat (0 : Nat) + (1 : Int))∧(0 : Int)≤(0 : Int)∧(0 : Int) < (↑(6 : Nat) : Int)∧(0 : Int)≤(0 : Int)∧(0 : Int) < (↑(1 : Nat) : Int)∧inRange IntKind.i64 (Int.ofNat (nat_lit 5 + (1 : Nat)) * Int.ofNat (nat_lit 1 + (1 : Nat)))∧(1 : Nat) * (8 : Nat)≤(140737488355328 : Nat)∧(1 : Nat) < (4611686018427387904 : Nat)∧inRange IntKind.i64 ((0 : Int) + (1 : Int))∧(0 : Int)≤imin (Int.ofNat (nat_lit 0 + (1 : Nat))) (Int.ofNat (0 : Nat))∧imin (Int.ofNat (nat_lit 0 + (1 : Nat))) (Int.ofNat (0 : Nat)) < (↑(6 : Nat) : Int)∧(0 : Int)≤(0 : Int)∧(0 : Int) < (↑(6 : Nat) : Int)∧(0 : Int)≤(0 : Int)∧(0 : Int) < (↑(1 : Nat) : Int)∧inRange IntKind.i64 (Int.ofNat (nat_lit 5 + (1 : Nat)) * Int.ofNat (nat_lit 499 + (1 : Nat)))∧(1000 : Int) ≠ (0 : Int)∧inRange IntKind.i64 ((Int.ofNat (nat_lit 2999 + (1 : Nat))).tdiv (1000 : Int))∧inRange IntKind.i64 (Int.ofNat (0 : Nat) + Int.ofNat (nat_lit 2 + (1 : Nat)))∧(0 : Int)≤imin (Int.ofNat (nat_lit 0 + (1 : Nat))) (Int.ofNat (0 : Nat))∧imin (Int.ofNat (nat_lit 0 + (1 : Nat))) (Int.ofNat (0 : Nat)) < (↑(6 : Nat) : Int)∧inRange IntKind.i64 ((0 : Int) + (1 : Int))∧(0 : Int)≤(0 : Int)∧(0 : Int) < (↑(6 : Nat) : Int)∧inRange IntKind.i64 (Int.ofNat (nat_lit 2 + (1 : Nat)) + (0 : Int))∧(0 : Int)≤(0 : Int)∧(0 : Int) < (↑(6 : Nat) : Int)∧∃ (x : Nat × (Nat→Int)), ((True∧True∧(1 : Nat) = x.fst∧∀ (i : Nat), i < (1 : Nat)→True∧(if i = (0 : Nat) then Int.ofNat (nat_lit 11 + (1 : Nat)) else (0 : Int)) = x.snd i)∧True)∧(x.fst≤(10 : Nat)∧∀ (i : Nat), i < x.fst→(0 : Int)≤x.snd i∧x.snd i≤(10000000 : Int))∧(True∧sm x.snd x.fst = (12 : Int))∧(True∧(((((True∧True∧Int.ofNat (nat_lit 2 + (1 : Nat)) = (3 : Int))∧True∧Int.ofNat (0 : Nat) = (0 : Int))∧True∧Int.ofNat (0 : Nat) = (0 : Int))∧True∧Int.ofNat (0 : Nat) = (0 : Int))∧True∧Int.ofNat (0 : Nat) = (0 : Int))∧True∧Int.ofNat (0 : Nat) = (0 : Int))∧True) (by kernel_rfl) ?_
 repeat (refine And.intro (by decide) ?_)
 refine ⟨(1, fun _ => 12), ⟨⟨trivial, trivial, rfl, fun i hi => ⟨trivial, ?_⟩⟩, trivial⟩, ⟨by decide, fun _ _ => (by decide : (0 : Int) ≤ 12 ∧ (12 : Int) ≤ 10000000)⟩, ⟨trivial, rfl⟩, ⟨trivial, (by decide)⟩, trivial⟩
 obtain rfl : i = 0 := by omega
 rfl
def sRc : Sig := ⟨Unit, fun _ => [.a 5 raceC], fun _ => True, fun _ => [.v (.c (.bool true))]⟩
def TSI1 : List (Nat × Sig) := (73, sRc) :: (75, sYr) :: (76, sFst) :: TSI0
theorem TSI1_ok : SigsOk Try.prog E0 TSI1 := ((TSI0_ok.cons (runs 76 (by kernel_rfl)) fun x _ => q76 x).cons (runs 75 (by kernel_rfl)) fun x _ => q75 x).cons (runs 73 (by kernel_rfl)) fun _ _ => q73
def sPly : Sig := ⟨Unit, fun _ => [.a 5 raceC, .c (i1 4), .c (i1 0)], fun _ => True, fun _ => [.v (.c (i1 12)), .v (intC 0)]⟩
theorem q53 (x : sPly.α) : CallQ Try.prog E0 53 (sPly.arg x) (sPly.res x) := by
 refine bare_num E0_ok TSI1 TSI1_ok [] EvensOk.nil runs { o := [(53, 16, fun st => oT [(12, [6])] st)] } [(53, 4, 3), (53, 13, 3)] (fuel := 8) ?_
 refine of_red (q := ∃ (x : Unit), ((True∧((((True∧True∧True∧(1 : Nat) = (1 : Nat)∧∀ (i : Nat), i < (1 : Nat)→True∧(10 : Int) = (10 : Int))∧True∧True∧(1 : Nat) = (1 : Nat)∧∀ (i : Nat), i < (1 : Nat)→True∧(500 : Int) = (500 : Int))∧True∧True∧(1 : Nat) = (1 : Nat)∧∀ (i : Nat), i < (1 : Nat)→True∧(2 : Int) = (2 : Int))∧True∧Int.ofNat (0 : Nat) = (0 : Int))∧True∧Int.ofNat (0 : Nat) = (0 : Int))∧True)∧True∧(true = true→(0 : Int)≤(0 : Int)∧(0 : Int) < (↑(1 : Nat) : Int)∧(0 : Int)≤(0 : Int)∧(0 : Int) < (↑(1 : Nat) : Int)∧inRange IntKind.i64 ((0 : Int) + (1 : Int))∧∃ (x : Unit), ((True∧((((True∧True∧True∧(1 : Nat) = (1 : Nat)∧∀ (i : Nat), i < (1 : Nat)→True∧(10 : Int) = (10 : Int))∧True∧True∧(1 : Nat) = (1 : Nat)∧∀ (i : Nat), i < (1 : Nat)→True∧(500 : Int) = (500 : Int))∧True∧True∧(1 : Nat) = (1 : Nat)∧∀ (i : Nat), i < (1 : Nat)→True∧(2 : Int) = (2 : Int))∧True∧Int.ofNat (0 : Nat) = (0 : Int))∧True∧Int.ofNat (0 : Nat) = (0 : Int))∧True)∧True∧(0 : Int)≤(0 : Int)∧(0 : Int) < (↑(1 : Nat) : Int)∧(0 : Int)≤(0 : Int)∧(0 : Int) < (↑(1 : Nat) : Int)∧∃ (x : Unit), ((True∧((((True∧True∧True∧(1 : Nat) = (1 : Nat)∧∀ (i : Nat), i < (1 : Nat)→True∧(10 : Int) = (10 : Int))∧True∧True∧(1 : Nat) = (1 : Nat)∧∀ (i : Nat), i < (1 : Nat)→True∧(500 : Int) = (500 : Int))∧True∧True∧(1 : Nat) = (1 : Nat)∧∀ (i : Nat), i < (1 : Nat)→True∧(2 : Int) = (2 : Int))∧True∧Int.ofNat (0 : Nat) = (0 : Int))∧True∧Int.ofNat (0 : Nat) = (0 : Int))∧(True∧(((((True∧True∧Int.ofNat (nat_lit 9 + (1 : Nat)) = (10 : Int))∧True∧Int.ofNat (0 : Nat) = (0 : Int))∧True∧Int.ofNat (0 : Nat) = (0 : Int))∧True∧Int.ofNat (0 : Nat) = (0 : Int))∧True∧Int.ofNat (0 : Nat) = (0 : Int))∧True∧Int.ofNat (0 : Nat) = (0 : Int))∧(True∧Int.ofNat (nat_lit 3 + (1 : Nat)) = (4 : Int))∧(True∧Int.ofNat (0 : Nat) = (0 : Int))∧True)∧True∧(1 : Nat) * (8 : Nat)≤(140737488355328 : Nat)∧(1 : Nat) < (4611686018427387904 : Nat)∧inRange IntKind.i64 ((0 : Int) + (1 : Int))∧(0 : Int)≤(0 : Int)∧(0 : Int)≤(↑(1 : Nat) : Int)∧(↑(1 : Nat) : Int)≤(↑(1 : Nat) : Int)∧(↑(1 : Nat) : Int)≤(↑(1 : Nat) : Int)∧(True∧True∧(1 : Nat) - (0 : Nat) = (1 : Nat)∧∀ (i : Nat), i < (1 : Nat) - (0 : Nat)→True∧(if i = (0 : Nat) then (12 : Int) else (0 : Int)) = (12 : Int))∧(True∧(0 : Int) = (0 : Int))∧True)∧(true = false→(True∧(1 : Nat) = (0 : Nat))∧(True∧(92 : Int) = (0 : Int))∧True)) (by kernel_rfl) ?_
 repeat (refine And.intro (by decide) ?_)
 refine ⟨(), by simp, trivial, fun _ => ?_, fun h => Bool.noConfusion h⟩
 repeat (refine And.intro (by decide) ?_)
 refine ⟨(), by simp, trivial, ?_⟩
 repeat (refine And.intro (by decide) ?_)
 refine ⟨(), by simp, trivial, ?_⟩
 repeat (refine And.intro (by decide) ?_)
 trivial
end Go.Proofs.Ytpigkgoooekcgaa
namespace Go.Proofs.Ytpigkgoooekcgaa
open Go Go.Sx Bm
set_option maxRecDepth 100000
set_option maxHeartbeats 4000000
def TSJ0 : List (Nat × Sig) := (52, sDvd) :: (50, sSm) :: (51, sWgt) :: (49, sStk) :: TSB0
theorem TSJ0_ok : SigsOk Try.prog E0 TSJ0 := (((TSB0_ok.cons (runs 49 (by kernel_rfl)) q49).cons (runs 51 (by kernel_rfl)) q51).cons (runs 50 (by kernel_rfl)) q50).cons (runs 52 (by kernel_rfl)) q52
def sDiv : Sig := ⟨DvIn, fun x => [intC x.all, .c (stksCV x.n x.nf x.W)], fun x => x.ok, fun x => [.v (.c (intsCV x.n (dvO x))), .v (intC 0)]⟩
theorem q22 (x : sDiv.α) (h : sDiv.pre x) : CallQ Try.prog E0 22 (sDiv.arg x) (sDiv.res x) := by
 refine bare_say E0_ok TSJ0 TSJ0_ok [] EvensOk.nil runs {} (fuel := 5) ?_
 refine of_red (q := ∃ (x_1 : Int × Int × Int), ((True∧x.all = x_1.fst)∧(True∧(0 : Int) = x_1.snd.fst)∧(True∧(10000000 : Int) = x_1.snd.snd)∧True)∧True∧((!within x_1.fst x_1.snd.fst x_1.snd.snd) = true→(True∧x.n = (0 : Nat))∧(True∧(7 : Int) = (0 : Int))∧True)∧((!within x_1.fst x_1.snd.fst x_1.snd.snd) = false→∃ (x_2 : Nat × (Nat→ByteArray) × (Nat→Int)), ((True∧True∧x.n = x_2.fst∧∀ (i : Nat), i < x.n→(True∧x.nf i = x_2.snd.fst i)∧x.W i = x_2.snd.snd i)∧True)∧(x_2.fst≤(8 : Nat)∧Nms x_2.fst x_2.snd.fst∧∀ (i : Nat), i < x_2.fst→(0 : Int)≤x_2.snd.snd i∧x_2.snd.snd i≤(1000 : Int))∧((!true) = true→(True∧x.n = (0 : Nat))∧(True∧(32 : Int) = (0 : Int))∧True)∧((!true) = false→∃ (x_3 : Nat × (Nat→ByteArray) × (Nat→Int)), ((True∧True∧x.n = x_3.fst∧∀ (i : Nat), i < x.n→(True∧x.nf i = x_3.snd.fst i)∧x.W i = x_3.snd.snd i)∧True)∧x_3.fst≤(8 : Nat)∧∃ (x_4 : Nat × (Nat→Int)), ((True∧True∧x_3.fst = x_4.fst∧∀ (i : Nat), i < x_3.fst→True∧x_3.snd.snd i = x_4.snd i)∧True)∧(x_4.fst≤(10 : Nat)∧∀ (i : Nat), i < x_4.fst→(0 : Int)≤x_4.snd i∧x_4.snd i≤(10000000 : Int))∧(decide (sm x_4.snd x_4.fst≤(0 : Int)) = true→(True∧x.n = (0 : Nat))∧(True∧(32 : Int) = (0 : Int))∧True)∧(decide (sm x_4.snd x_4.fst≤(0 : Int)) = false→∃ (x_5 : DvIn), ((True∧x.all = x_5.all)∧(True∧True∧x.n = x_5.n∧∀ (i : Nat), i < x.n→(True∧x.nf i = x_5.nf i)∧x.W i = x_5.W i)∧True)∧x_5.ok∧(0 : Int)≤(0 : Int)∧(0 : Int)≤(↑x_5.n : Int)∧(↑x_5.n : Int)≤(↑x_5.n : Int)∧(↑x_5.n : Int)≤(↑x_5.n : Int)∧(True∧True∧x_5.n - (0 : Nat) = x.n∧∀ (i : Nat), i < x_5.n - (0 : Nat)→True∧dvO x_5 i = dvO x i)∧(True∧(0 : Int) = (0 : Int))∧True)))) (by kernel_rfl) ?_
 simp only [true_and, and_true, inR, Prod.exists, Prod.forall, and_assoc, exists_and_left, exists_eq_left', exists_eq_left, forall_eq, exists_const, forall_const, loopN, loopM, fa2, fas, fas2, dup1, dup2, dup3, dup4, ite_true, exhs, exhn, exhz, exho, exA, ex1, ex2, ex3, ex4, ex5, beqI, bneI, decide_true, Bool.true_and, decide_eq_true_eq, decide_eq_false_iff_not, ne_eq, Decidable.not_not]
 have hok : x.ok := h
 have n8 := hok.n8
 have S0 := hok.S0
 have eS : sm x.W x.n = dvS x := rfl
 refine ⟨fun h => ?_, fun _ => ⟨x.nf, x.W, fun _ _ => ⟨rfl, rfl⟩, n8, hok.nm, hok.W, fun h => Bool.noConfusion h, fun _ => ⟨x.nf, x.W, fun _ _ => ⟨rfl, rfl⟩, n8, x.W, fun _ _ => rfl, by omega, fun i hi => ⟨(hok.W i hi).1, by have := (hok.W i hi).2; omega⟩, fun h => by omega, fun _ => ⟨x, rfl, rfl, fun _ _ => ⟨rfl, rfl⟩, hok, by omega, by omega, by omega, by omega, by omega, fun _ _ => rfl⟩⟩⟩⟩
 rw [Bm.within_iff.2 ⟨hok.a0, hok.a1⟩] at h; cases h
theorem q24 (x : sSm.α) (h : sSm.pre x) : CallQ Try.prog E0 24 (sSm.arg x) (sSm.res x) := by
 obtain ⟨n, f⟩ := x
 refine bare_say E0_ok [] SigsOk.nil [] EvensOk.nil runs { l := [(24, 3, { G := Nat, ok := fun _ i => i ≤ n, dom := fun _ => [], tm := fun _ i => [(4, .t (intC i)), (3, .t (intC (sm f i)))], hp := fun _ _ => [], mu := fun _ i => n - i })] } (fuel := 5) ?_
 refine of_red (q := (∃ (g : Nat), g≤n∧True∧((True∧(0 : Int) = (↑g : Int))∧(True∧(0 : Int) = sm f g)∧True)∧True)∧∀ (g : Nat), g≤n→(decide ((↑g : Int) < (↑n : Int)) = true→(0 : Int)≤(↑g : Int)∧(↑g : Int) < (↑n : Int)∧inRange IntKind.i64 (sm f g + f g)∧inRange IntKind.i64 ((↑g : Int) + (1 : Int))∧∃ (g' : Nat), g'≤n∧n - g' < n - g∧True∧((True∧(↑g : Int) + (1 : Int) = (↑g' : Int))∧(True∧sm f g + f g = sm f g')∧True)∧True)∧(decide ((↑g : Int) < (↑n : Int)) = false→True∧sm f g = sm f n)) (by kernel_rfl) ?_
 simp only [true_and, and_true, inR, Prod.exists, Prod.forall, and_assoc, exists_and_left, exists_eq_left', exists_eq_left, forall_eq, exists_const, forall_const, loopN, loopM, fa2, fas, fas2, dup1, dup2, dup3, dup4, ite_true, exhs, exhn, exhz, exho, exA, ex1, ex2, ex3, ex4, ex5, beqI, bneI, decide_true, Bool.true_and, decide_eq_true_eq, decide_eq_false_iff_not, ne_eq, Decidable.not_not]
 obtain ⟨hn, hf⟩ : n ≤ 10 ∧ ∀ i, i < n → 0 ≤ f i ∧ f i ≤ 10000000 := h
 refine ⟨⟨0, Nat.zero_le _, rfl, rfl⟩, fun g hg => ?_⟩
 have b := sm_bd (f := f) (K := 10000000) (n := g + 1) fun i hi => hf i (by omega)
 have e : sm f (g + 1) = sm f g + f g := rfl
 exact ⟨by omega, by omega, by omega, by omega, by omega, by omega, g + 1, by omega, by omega, by omega, rfl⟩
def TSJ1 : List (Nat × Sig) := (24, sSm) :: (23, sSame) :: (22, sDiv) :: (53, sPly) :: (21, sShs) :: []
theorem TSJ1_ok : SigsOk Try.prog E0 TSJ1 := ((((SigsOk.nil.cons (runs 21 (by kernel_rfl)) q21).cons (runs 53 (by kernel_rfl)) fun x _ => q53 x).cons (runs 22 (by kernel_rfl)) q22).cons (runs 23 (by kernel_rfl)) q23).cons (runs 24 (by kernel_rfl)) q24
def tf (i : Nat) : Int := if i = 2 then 9 else if i = 1 then 1 else if i = 0 then 9 else 0
def ab (i : Nat) : ByteArray := if i = 0 then ⟨#[97]⟩ else ⟨#[98]⟩
def tw (i : Nat) : Int := if i = 1 then 3 else if i = 0 then 1 else 0
theorem tf_ok : ClIn.ok ⟨3, tf, 5⟩ := ⟨by decide, by decide, by decide +kernel, by decide, by decide +kernel⟩
theorem ab_ok : Nms 2 ab := by
 refine ⟨fun i hi => ?_, by decide +kernel, by decide +kernel, by decide +kernel⟩
 match i, hi with
 | 0, _ => exact ⟨by decide, by decide, by decide, fun k hk => (by obtain rfl : k = 0 := Nat.lt_one_iff.1 hk; decide)⟩
 | 1, _ => exact ⟨by decide, by decide, by decide, fun k hk => (by obtain rfl : k = 0 := Nat.lt_one_iff.1 hk; decide)⟩
theorem tw_ok : DvIn.ok ⟨2, ab, tw, 10, 2⟩ := ⟨by decide, by decide, ab_ok, by decide +kernel, by decide, by decide, by decide +kernel, by decide +kernel⟩
def tg (i : Nat) : Int := if i = 2 then 2 else if i = 1 then 1 else if i = 0 then 2 else 0
theorem sh_ten : sameB 3 (shI 3 tf 5) 3 tg = true := by
 have hL : shL 3 tf 5 = 2 := lvT_eq (by decide +kernel) (by decide) (.inr (by decide +kernel))
 have e : ∀ i, i < 3 → shI 3 tf 5 i = tg i := by
   unfold shI shR
   rw [hL]
   decide +kernel
 unfold sameB
 simp only [allB, e 0 (by decide), e 1 (by decide), e 2 (by decide)]
 decide
def sTen : Sig := ⟨Unit, fun _ => [], fun _ => True, fun _ => [.v (.c (.bool true))]⟩
theorem q25 (x : sTen.α) : CallQ Try.prog E0 25 (sTen.arg x) (sTen.res x) := by
 refine bare_say E0_ok TSJ1 TSJ1_ok [] EvensOk.nil runs {} (fuel := 5) ?_
 refine of_red (q := ∃ (x : ClIn), ((True∧(True∧True∧(5 : Int) = x.q)∧True∧True∧(3 : Nat) = x.n∧∀ (i : Nat), i < (3 : Nat)→True∧(if i = (2 : Nat) then (9 : Int) else if i = (1 : Nat) then (1 : Int) else if i = (0 : Nat) then (9 : Int) else (0 : Int)) = x.f i)∧True)∧x.ok∧∃ (x_1 : Unit), ((True∧((((True∧True∧True∧(1 : Nat) = (1 : Nat)∧∀ (i : Nat), i < (1 : Nat)→True∧(if i = (0 : Nat) then (10 : Int) else (0 : Int)) = (10 : Int))∧True∧True∧(1 : Nat) = (1 : Nat)∧∀ (i : Nat), i < (1 : Nat)→True∧(if i = (0 : Nat) then (500 : Int) else (0 : Int)) = (500 : Int))∧True∧True∧(1 : Nat) = (1 : Nat)∧∀ (i : Nat), i < (1 : Nat)→True∧(if i = (0 : Nat) then (2 : Int) else (0 : Int)) = (2 : Int))∧True∧(0 : Int) = (0 : Int))∧True∧(0 : Int) = (0 : Int))∧(True∧True∧(1 : Nat) = (1 : Nat)∧∀ (i : Nat), i < (1 : Nat)→True∧(if i = (0 : Nat) then (4 : Int) else (0 : Int)) = (4 : Int))∧(True∧True∧(1 : Nat) = (1 : Nat)∧∀ (i : Nat), i < (1 : Nat)→True∧(if i = (0 : Nat) then (0 : Int) else (0 : Int)) = (0 : Int))∧True)∧True∧∃ (x_2 : DvIn), ((True∧(10 : Int) = x_2.all)∧(True∧True∧(2 : Nat) = x_2.n∧∀ (i : Nat), i < (2 : Nat)→(True∧fitP (if i = (1 : Nat) then ((2 : Nat), fun (j : Nat) => if j = nat_lit 0 + (1 : Nat) then ((1 : Nat), fun (x : Nat) => CV.int IntKind.i64 (3 : Int)).snd (0 : Nat) else if j < (0 : Nat) + ((1 : Nat), fun (x : Nat) => CV.str (ByteArray.mk #[(98 : UInt8)])).fst then ((1 : Nat), fun (x : Nat) => CV.str (ByteArray.mk #[(98 : UInt8)])).snd (j - (0 : Nat)) else [CV.str (ByteArray.mk #[]), CV.int IntKind.i64 (0 : Int)].getD j CV.any).snd 0 else if i = (0 : Nat) then ((2 : Nat), fun (j : Nat) => if j = nat_lit 0 + (1 : Nat) then ((1 : Nat), fun (x : Nat) => CV.int IntKind.i64 (1 : Int)).snd (0 : Nat) else if j < (0 : Nat) + ((1 : Nat), fun (x : Nat) => CV.str (ByteArray.mk #[(97 : UInt8)])).fst then ((1 : Nat), fun (x : Nat) => CV.str (ByteArray.mk #[(97 : UInt8)])).snd (j - (0 : Nat)) else [CV.str (ByteArray.mk #[]), CV.int IntKind.i64 (0 : Int)].getD j CV.any).snd 0 else [CV.str (ByteArray.mk #[]), CV.int IntKind.i64 (0 : Int)].getD 0 CV.any) (stkC x_2.nf x_2.W i 0))∧(if i = (1 : Nat) then (3 : Int) else if i = (0 : Nat) then (1 : Int) else (0 : Int)) = x_2.W i)∧True)∧x_2.ok∧(((0 : Int) == (0 : Int)) = true→(((0 : Int) == (0 : Int)) = true→(((0 : Int) == (0 : Int)) = true→∃ (x_3 : TwoL), ((True∧True∧x.n = x_3.n∧∀ (i : Nat), i < x.n→True∧shI x.n x.f x.q i = x_3.f i)∧(True∧True∧(3 : Nat) = x_3.m∧∀ (i : Nat), i < (3 : Nat)→True∧(if i = (2 : Nat) then (2 : Int) else if i = (1 : Nat) then (1 : Int) else if i = (0 : Nat) then (2 : Int) else (0 : Int)) = x_3.g i)∧True)∧(x_3.n < (4611686018427387904 : Nat)∧x_3.m < (4611686018427387904 : Nat))∧(sameB x_3.n x_3.f x_3.m x_3.g = true→∃ (x : TwoL), ((True∧True∧(1 : Nat) = x.n∧∀ (i : Nat), i < (1 : Nat)→True∧(12 : Int) = x.f i)∧(True∧True∧(1 : Nat) = x.m∧∀ (i : Nat), i < (1 : Nat)→True∧(if i = (0 : Nat) then (12 : Int) else (0 : Int)) = x.g i)∧True)∧(x.n < (4611686018427387904 : Nat)∧x.m < (4611686018427387904 : Nat))∧(sameB x.n x.f x.m x.g = true→∃ (x : TwoL), ((True∧True∧x_2.n = x.n∧∀ (i : Nat), i < x_2.n→True∧dvO x_2 i = x.f i)∧(True∧True∧(2 : Nat) = x.m∧∀ (i : Nat), i < (2 : Nat)→True∧(if i = (1 : Nat) then (7 : Int) else if i = (0 : Nat) then (3 : Int) else (0 : Int)) = x.g i)∧True)∧(x.n < (4611686018427387904 : Nat)∧x.m < (4611686018427387904 : Nat))∧True∧sameB x.n x.f x.m x.g = true)∧(sameB x.n x.f x.m x.g = false→True∧true = false))∧(sameB x_3.n x_3.f x_3.m x_3.g = false→True∧true = false))∧(((0 : Int) == (0 : Int)) = false→True∧true = false))∧(((0 : Int) == (0 : Int)) = false→True∧true = false))∧(((0 : Int) == (0 : Int)) = false→True∧true = false)) (by kernel_rfl) ?_
 simp only [true_and, and_true, inR, Prod.exists, Prod.forall, and_assoc, exists_and_left, exists_eq_left', exists_eq_left, forall_eq, exists_const, forall_const, loopN, loopM, fa2, fas, fas2, dup1, dup2, dup3, dup4, ite_true, exhs, exhn, exhz, exho, exA, ex1, ex2, ex3, ex4, ex5, beqI, bneI, decide_true, Bool.true_and, decide_eq_true_eq, decide_eq_false_iff_not, ne_eq, Decidable.not_not]
 refine ⟨⟨3, tf, 5⟩, rfl, rfl, fun _ _ => rfl, tf_ok, by decide, by decide, by decide, by decide, by decide, ⟨2, ab, tw, 10, 2⟩, rfl, rfl, fun i hi => ?_, tw_ok, ⟨⟨3, shI 3 tf 5, 3, tg⟩, rfl, fun _ _ => rfl, rfl, fun _ _ => rfl, by decide, by decide, fun _ => ⟨⟨1, fun _ => 12, 1, _⟩, rfl, fun _ _ => rfl, rfl, fun _ _ => rfl, by decide, by decide, fun _ => ⟨⟨2, dvO ⟨2, ab, tw, 10, 2⟩, 2, _⟩, rfl, fun _ _ => rfl, rfl, fun _ _ => rfl, by decide, by decide, ?_⟩, fun h => ?_⟩, fun h => ?_⟩, fun h => Bool.noConfusion h, fun h => Bool.noConfusion h, fun h => Bool.noConfusion h⟩
 · match i, hi with
   | 0, _ => exact ⟨rfl, rfl⟩
   | 1, _ => exact ⟨rfl, rfl⟩
 · decide +kernel
 · exact absurd h (by decide +kernel)
 · exact Bool.noConfusion (sh_ten.symm.trans h)
end Go.Proofs.Ytpigkgoooekcgaa
namespace Bm
open Go Go.Sx
def eqI (n : Nat) (q : Int) (i : Nat) : Int := q / n + if (i : Int) < q % n then 1 else 0
theorem gt_all {f : Nat → Int} {L : Int} : ∀ {i : Nat}, (∀ j, j < i → L < f j) → gtN f L i = i
 | 0, _ => rfl
 | i + 1, h => by
   unfold gtN
   rw [gt_all fun j hj => h j (by omega), if_pos (h i (by omega))]
theorem shI_def {n : Nat} {r q : Int} {i : Nat} : shI n (fun _ => r) q i = imin r (shL n (fun _ => r) q) + (if (shL n (fun _ => r) q : Int) < r ∧ (gtN (fun _ => r) (shL n (fun _ => r) q) i : Int) < shR n (fun _ => r) q then 1 else 0) := rfl
theorem shR_def {n : Nat} {f : Nat → Int} {q : Int} : shR n f q = q - lvS n f (shL n f q) := rfl
theorem sh_eq {n : Nat} {r q : Int} (n1 : 1 ≤ n) (n8 : n ≤ 8) (r0 : 1 ≤ r) (r1 : r ≤ 100000) (q0 : 0 ≤ q) (q1 : q ≤ n * r) (i : Nat) (hi : i < n) : shI n (fun _ => r) q i = eqI n q i := by
 have lv : ∀ L : Int, lvS n (fun _ => r) L = n * imin r L := fun L => by
   unfold lvS
   exact sm_const (a := imin r L) (n := n)
 have hm := Int.mul_ediv_add_emod q n
 have hm0 := Int.emod_nonneg q (show (n : Int) ≠ 0 by omega)
 have hm1 := Int.emod_lt_of_pos q (show (0 : Int) < n by omega)
 have hq0 : 0 ≤ q / n := Int.ediv_nonneg q0 (by omega)
 by_cases c : q = n * r
 · have hL : shL n (fun _ => r) q = 100000 := by
     refine lvT_eq ?_ (Nat.le_refl _) (.inl rfl)
     rw [lv, show imin r ((100000 : Nat) : Int) = r by unfold imin; split <;> omega]
     omega
   have e1 : q / n = r := by rw [c]; exact Int.mul_ediv_cancel_left _ (by omega)
   have e2 : q % n = 0 := by rw [c]; exact Int.mul_emod_right _ _
   unfold eqI
   rw [shI_def, hL, e1, e2, show imin r ((100000 : Nat) : Int) = r by unfold imin; split <;> omega, if_neg (by omega), if_neg (by omega)]
 · have hlt : q / n < r := Int.ediv_lt_of_lt_mul (by omega) (by rw [Int.mul_comm]; omega)
   obtain ⟨L, hL0⟩ := Int.eq_ofNat_of_zero_le hq0
   have hL : shL n (fun _ => r) q = L := by
     refine lvT_eq ?_ (by omega) (.inr ?_)
     · rw [lv, show imin r ((L : Nat) : Int) = L by unfold imin; split <;> omega, ← hL0]
       omega
     · rw [lv, show imin r ((L + 1 : Nat) : Int) = L + 1 by unfold imin; split <;> omega, ← hL0, Int.mul_add]
       omega
   have e : lvS n (fun _ => r) L = n * L := by
     rw [lv, show imin r ((L : Nat) : Int) = L by unfold imin; split <;> omega]
   unfold eqI
   rw [shI_def, hL, shR_def, hL, e, gt_all (fun _ _ => by show (L : Int) < r; omega), show imin r ((L : Nat) : Int) = L by unfold imin; split <;> omega, hL0]
   have e2 : q - n * (L : Int) = q % n := by rw [← hL0]; omega
   rw [e2]
   by_cases d : (i : Int) < q % n
   · rw [if_pos d, if_pos ⟨by omega, d⟩]
   · rw [if_neg d, if_neg (fun h => d h.2)]
theorem sm_eqI {n : Nat} {q : Int} (n1 : 1 ≤ n) (q0 : 0 ≤ q) : sm (eqI n q) n = q := by
 have hm := Int.mul_ediv_add_emod q n
 have hm0 := Int.emod_nonneg q (show (n : Int) ≠ 0 by omega)
 have hm1 := Int.emod_lt_of_pos q (show (0 : Int) < n by omega)
 have key : ∀ k : Nat, sm (eqI n q) k = k * (q / n) + imin k (q % n) := by
   intro k
   induction k with
   | zero => unfold sm imin; simp; omega
   | succ k ih =>
     have e : sm (eqI n q) (k + 1) = sm (eqI n q) k + eqI n q k := rfl
     rw [e, ih, Int.natCast_succ, Int.add_mul, Int.one_mul]
     unfold eqI imin
     split <;> split <;> split <;> omega
 rw [key, show imin n (q % n) = q % n by unfold imin; split <;> omega]
 omega
end Bm
