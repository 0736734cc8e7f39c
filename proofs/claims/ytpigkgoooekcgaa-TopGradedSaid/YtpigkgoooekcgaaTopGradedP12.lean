/- Texts for the law of the last part, part 12. -/
import Derived.Test.YtpigkgoooekcgaaTopGradedP11
set_option linter.unusedSimpArgs false
set_option linter.unusedVariables false
namespace Go.Proofs.Ytpigkgoooekcgaa
open Go Go.Sx Bm
set_option maxRecDepth 100000
def TP : List (Nat × Sig) := (13, sGrade) :: TG1
theorem TP_ok : SigsOk Try.prog E0 TP := (TG1_ok.cons (runs 13 (by kernel_rfl)) q13)
def sPro : Sig := ⟨PrIn, fun x => [.c (marksCV x.n x.m), intC x.N, arrTV 6 x.r, .c (barsCV x.no x.op)], fun x => x.n < 4611686018427387904 ∧ x.no < 4611686018427387904, fun x => [.v (intC (prW x)), .v (intC (prA x)), .v (intC (prE x))]⟩
def aP1 (t u : Nat) (x : PrIn) : Ann := { G := Nat, ok := fun _ i => i ≤ x.no, dom := fun _ => [], tm := fun _ i => [(t, .t (.c (.bool (decide ((x.no : Int) ≤ x.N) && allB i (fun k => barOk (x.op k)))))), (u, .t (intC i))], hp := fun _ _ => [], mu := fun _ i => x.no - i }
def vAl (x : PrIn) (j : Nat) : Int := if x.no < j then prAl x else -1
def aP2 (K : Nat) (x : PrIn) : Ann := { G := Nat, ok := fun _ j => j ≤ x.N.toNat + 1, dom := fun _ => [K], tm := fun _ j => [(8, .t (intC j))], hp := fun _ j => [(K, .self, some (.box 1 (fun _ => .int .i64 (vAl x j))))], mu := fun _ j => x.N.toNat + 1 - j }
def aP3 (K : Nat) (x : PrIn) : Ann := { G := Nat × Nat, ok := fun st g => isM (st.tm 3) g.1 ∧ g.2 ≤ g.1 + 1, dom := fun _ => [K], tm := fun _ g => [(13, .t (intC g.2))], hp := fun _ g => [(K, .self, some (.box 1 (fun _ => .int .i64 (if g.1 = x.no then alw x.N.toNat x.no x.r g.2 else vAl x g.1))))], mu := fun _ g => g.1 + 1 - g.2 }
def aP4 (t : Nat) (x : PrIn) : Ann := { G := Nat, ok := fun _ i => i ≤ x.n ∧ ∀ k, k < i → ¬ (cnt (x.m k) x.op x.no : Int) ≤ prAl x, dom := fun _ => [], tm := fun _ i => [(t, .t (intC i))], hp := fun _ _ => [], mu := fun _ i => x.n - i }
def aP5 (q t u : Nat) (x : PrIn) : Ann := { G := Nat × Nat, ok := fun st g => isM (st.tm q) g.1 ∧ g.2 ≤ x.no, dom := fun _ => [], tm := fun _ g => [(t, .t (intC (cnt (x.m g.1) x.op g.2))), (u, .t (intC g.2))], hp := fun _ _ => [], mu := fun _ g => x.no - g.2 }
set_option maxHeartbeats 1000000 in
theorem q15 (x : sPro.α) (h : sPro.pre x) : CallQ Try.prog E0 15 (sPro.arg x) (sPro.res x) := by
 obtain ⟨n, m, N, r, no, op⟩ := x
 refine bare_all E0_ok TP TP_ok V5 V5_ok runs [(15, 8, aP1 12 40 ⟨n, m, N, r, no, op⟩), (62, 1, aP2 12 ⟨n, m, N, r, no, op⟩), (62, 4, aP3 12 ⟨n, m, N, r, no, op⟩), (15, 20, aP4 70 ⟨n, m, N, r, no, op⟩), (15, 25, aP5 16 19 79 ⟨n, m, N, r, no, op⟩)] [] [] [(34, 4, mapN 6)] (fuel := 6) ?_
 refine of_red (q := ∃ (x : Nat × (Nat→Nat→Int)), ((True∧True∧n = x.fst∧∀ (i : Nat), i < n→(((((((True∧m i 0 = x.snd i 0)∧m i 1 = x.snd i 1)∧m i 2 = x.snd i 2)∧m i 3 = x.snd i 3)∧m i 4 = x.snd i 4)∧m i 5 = x.snd i 5)∧m i 6 = x.snd i 6)∧m i 7 = x.snd i 7)∧True)∧x.fst < (4611686018427387904 : Nat)∧((!marksOk x.fst x.snd) = true→(True∧(0 : Int) = prW { n := n, m := m, N := N, r := r, no := no, op := op })∧(True∧(0 : Int) = prA { n := n, m := m, N := N, r := r, no := no, op := op })∧(True∧(70 : Int) = prE { n := n, m := m, N := N, r := r, no := no, op := op })∧True)∧((!marksOk x.fst x.snd) = false→∃ (x : Int × Int × Int), ((True∧N = x.fst)∧(True∧(1 : Int) = x.snd.fst)∧(True∧(40 : Int) = x.snd.snd)∧True)∧True∧((!within x.fst x.snd.fst x.snd.snd) = true→(((7 : Int) != (0 : Int)) = true→(True∧(0 : Int) = prW { n := n, m := m, N := N, r := r, no := no, op := op })∧(True∧(0 : Int) = prA { n := n, m := m, N := N, r := r, no := no, op := op })∧(True∧(7 : Int) = prE { n := n, m := m, N := N, r := r, no := no, op := op })∧True)∧(((7 : Int) != (0 : Int)) = false→(∃ (g : Nat), g≤no∧True∧((True∧decide ((↑no : Int)≤N) = (decide ((↑no : Int)≤N) && allB g fun (k : Nat) => barOk (op k)))∧(True∧(0 : Int) = (↑g : Int))∧True)∧True)∧∀ (g : Nat), g≤no→(decide ((↑g : Int) < (↑no : Int)) = true→(0 : Int)≤(↑g : Int)∧(↑g : Int) < (↑no : Int)∧((decide ((↑no : Int)≤N) && allB g fun (k : Nat) => barOk (op k)) = true→∃ (x : Nat→Int), ((True∧(((True∧True∧op g 0 = x 0)∧True∧op g 1 = x 1)∧True∧op g 2 = x 2)∧True∧op g 3 = x 3)∧True)∧True∧inRange IntKind.i64 ((↑g : Int) + (1 : Int))∧∃ (g' : Nat), g'≤no∧no - g' < no - g∧True∧((True∧barOk x = (decide ((↑no : Int)≤N) && allB g' fun (k : Nat) => barOk (op k)))∧(True∧(↑g : Int) + (1 : Int) = (↑g' : Int))∧True)∧True)∧((decide ((↑no : Int)≤N) && allB g fun (k : Nat) => barOk (op k)) = false→inRange IntKind.i64 ((↑g : Int) + (1 : Int))∧∃ (g' : Nat), g'≤no∧no - g' < no - g∧True∧((True∧(decide ((↑no : Int)≤N) && allB g' fun (k : Nat) => barOk (op k)) = false)∧(True∧(↑g : Int) + (1 : Int) = (↑g' : Int))∧True)∧True))∧(decide ((↑g : Int) < (↑no : Int)) = false→((!(decide ((↑no : Int)≤N) && allB g fun (k : Nat) => barOk (op k))) = true→(True∧(0 : Int) = prW { n := n, m := m, N := N, r := r, no := no, op := op })∧(True∧(0 : Int) = prA { n := n, m := m, N := N, r := r, no := no, op := op })∧(True∧(73 : Int) = prE { n := n, m := m, N := N, r := r, no := no, op := op })∧True)∧((!(decide ((↑no : Int)≤N) && allB g fun (k : Nat) => barOk (op k))) = false→inRange IntKind.i64 ((0 : Int) + (1 : Int))∧(∃ (g : Nat), g≤N.toNat + (1 : Nat)∧True∧((True∧(0 : Int) = (↑g : Int))∧True)∧(True∧True∧True∧(-1 : Int) = vAl { n := n, m := m, N := N, r := r, no := no, op := op } g)∧True)∧∀ (g : Nat), g≤N.toNat + (1 : Nat)→(decide ((↑g : Int) < (0 : Int) + (1 : Int)) = true→inRange IntKind.i64 ((↑g : Int) + (1 : Int))∧(∃ (g_1 : Nat × Nat), ((↑g : Int) = (↑g_1.fst : Int)∧g_1.snd≤g_1.fst + (1 : Nat))∧True∧((True∧(0 : Int) = (↑g_1.snd : Int))∧True)∧(True∧True∧True∧vAl { n := n, m := m, N := N, r := r, no := no, op := op } g = if g_1.fst = no then alw N.toNat no r g_1.snd else vAl { n := n, m := m, N := N, r := r, no := no, op := op } g_1.fst)∧True)∧∀ (g_1 : Nat × Nat), (↑g : Int) = (↑g_1.fst : Int)∧g_1.snd≤g_1.fst + (1 : Nat)→(decide ((↑g_1.snd : Int) < (↑g : Int) + (1 : Int)) = true→(((↑g : Int) == (↑no : Int)) = true→(lookFn fnTab (36 : Nat)).isSome = true∧∃ (g : KeepIn), g.wf∧False)∧(((↑g : Int) == (↑no : Int)) = false→inRange IntKind.i64 ((↑g_1.snd : Int) + (1 : Int))∧∃ (g' : Nat × Nat), ((↑g : Int) = (↑g'.fst : Int)∧g'.snd≤g'.fst + (1 : Nat))∧g'.fst + (1 : Nat) - g'.snd < g_1.fst + (1 : Nat) - g_1.snd∧True∧((True∧(↑g_1.snd : Int) + (1 : Int) = (↑g'.snd : Int))∧True)∧(True∧True∧True∧(if g_1.fst = no then alw N.toNat no r g_1.snd else vAl { n := n, m := m, N := N, r := r, no := no, op := op } g_1.fst) = if g'.fst = no then alw N.toNat no r g'.snd else vAl { n := n, m := m, N := N, r := r, no := no, op := op } g'.fst)∧True))∧(decide ((↑g_1.snd : Int) < (↑g : Int) + (1 : Int)) = false→inRange IntKind.i64 ((↑g : Int) + (1 : Int))∧∃ (g' : Nat), g'≤N.toNat + (1 : Nat)∧N.toNat + (1 : Nat) - g' < N.toNat + (1 : Nat) - g∧True∧((True∧(↑g : Int) + (1 : Int) = (↑g' : Int))∧True)∧(True∧True∧True∧(if g_1.fst = no then alw N.toNat no r g_1.snd else vAl { n := n, m := m, N := N, r := r, no := no, op := op } g_1.fst) = vAl { n := n, m := m, N := N, r := r, no := no, op := op } g')∧True))∧(decide ((↑g : Int) < (0 : Int) + (1 : Int)) = false→(∃ (g : Nat), (g≤n∧∀ (k : Nat), k < g→¬(↑(cnt (m k) op no) : Int)≤prAl { n := n, m := m, N := N, r := r, no := no, op := op })∧True∧((True∧(0 : Int) = (↑g : Int))∧True)∧True)∧∀ (g_1 : Nat), (g_1≤n∧∀ (k : Nat), k < g_1→¬(↑(cnt (m k) op no) : Int)≤prAl { n := n, m := m, N := N, r := r, no := no, op := op })→(decide ((↑g_1 : Int) < (↑n : Int)) = true→(0 : Int)≤(↑g_1 : Int)∧(↑g_1 : Int) < (↑n : Int)∧(∃ (g : Nat × Nat), ((↑g_1 : Int) = (↑g.fst : Int)∧g.snd≤no)∧True∧((True∧(0 : Int) = (↑(cnt (m g.fst) op g.snd) : Int))∧(True∧(0 : Int) = (↑g.snd : Int))∧True)∧True)∧∀ (g_2 : Nat × Nat), (↑g_1 : Int) = (↑g_2.fst : Int)∧g_2.snd≤no→(decide ((↑g_2.snd : Int) < (↑no : Int)) = true→(0 : Int)≤(↑g_2.snd : Int)∧(↑g_2.snd : Int) < (↑no : Int)∧∃ (x : (Nat→Int) × (Nat→Int)), ((True∧(((((((True∧True∧m g_1 0 = x.fst 0)∧True∧m g_1 1 = x.fst 1)∧True∧m g_1 2 = x.fst 2)∧True∧m g_1 3 = x.fst 3)∧True∧m g_1 4 = x.fst 4)∧True∧m g_1 5 = x.fst 5)∧True∧m g_1 6 = x.fst 6)∧True∧m g_1 7 = x.fst 7)∧(True∧(((True∧True∧op g_2.snd 0 = x.snd 0)∧True∧op g_2.snd 1 = x.snd 1)∧True∧op g_2.snd 2 = x.snd 2)∧True∧op g_2.snd 3 = x.snd 3)∧True)∧markOk x.fst = true∧((!reach x.fst x.snd) = true→inRange IntKind.i64 ((↑(cnt (m g_2.fst) op g_2.snd) : Int) + (1 : Int))∧inRange IntKind.i64 ((↑g_2.snd : Int) + (1 : Int))∧∃ (g' : Nat × Nat), ((↑g_1 : Int) = (↑g'.fst : Int)∧g'.snd≤no)∧no - g'.snd < no - g_2.snd∧True∧((True∧(↑(cnt (m g_2.fst) op g_2.snd) : Int) + (1 : Int) = (↑(cnt (m g'.fst) op g'.snd) : Int))∧(True∧(↑g_2.snd : Int) + (1 : Int) = (↑g'.snd : Int))∧True)∧True)∧((!reach x.fst x.snd) = false→inRange IntKind.i64 ((↑g_2.snd : Int) + (1 : Int))∧∃ (g' : Nat × Nat), ((↑g_1 : Int) = (↑g'.fst : Int)∧g'.snd≤no)∧no - g'.snd < no - g_2.snd∧True∧((True∧(↑(cnt (m g_2.fst) op g_2.snd) : Int) = (↑(cnt (m g'.fst) op g'.snd) : Int))∧(True∧(↑g_2.snd : Int) + (1 : Int) = (↑g'.snd : Int))∧True)∧True))∧(decide ((↑g_2.snd : Int) < (↑no : Int)) = false→(decide ((↑(cnt (m g_2.fst) op g_2.snd) : Int)≤vAl { n := n, m := m, N := N, r := r, no := no, op := op } g) = true→(True∧(↑g_1 : Int) = prW { n := n, m := m, N := N, r := r, no := no, op := op })∧(True∧vAl { n := n, m := m, N := N, r := r, no := no, op := op } g = prA { n := n, m := m, N := N, r := r, no := no, op := op })∧(True∧(0 : Int) = prE { n := n, m := m, N := N, r := r, no := no, op := op })∧True)∧(decide ((↑(cnt (m g_2.fst) op g_2.snd) : Int)≤vAl { n := n, m := m, N := N, r := r, no := no, op := op } g) = false→inRange IntKind.i64 ((↑g_1 : Int) + (1 : Int))∧∃ (g' : Nat), (g'≤n∧∀ (k : Nat), k < g'→¬(↑(cnt (m k) op no) : Int)≤prAl { n := n, m := m, N := N, r := r, no := no, op := op })∧n - g' < n - g_1∧True∧((True∧(↑g_1 : Int) + (1 : Int) = (↑g' : Int))∧True)∧True)))∧(decide ((↑g_1 : Int) < (↑n : Int)) = false→(True∧(0 : Int) = prW { n := n, m := m, N := N, r := r, no := no, op := op })∧(True∧(0 : Int) = prA { n := n, m := m, N := N, r := r, no := no, op := op })∧(True∧(4 : Int) = prE { n := n, m := m, N := N, r := r, no := no, op := op })∧True))))))∧((!within x.fst x.snd.fst x.snd.snd) = false→(True∧∀ (ks : List Int) (x : Int), none = some x→x = cI (ks.getD (0 : Nat) (0 : Int)) (ks.getD (1 : Nat) (0 : Int)))∧(lookFn fnTab (60 : Nat)).isSome = true∧∃ (g : Nat × (Nat→Int)), g.fst≤(1000000 : Nat)∧True∧((True∧(True∧True∧N = (↑g.fst : Int))∧True)∧(True∧(((((True∧True∧r 0 = g.snd 0)∧True∧r 1 = g.snd 1)∧True∧r 2 = g.snd 2)∧True∧r 3 = g.snd 3)∧True∧r 4 = g.snd 4)∧True∧r 5 = g.snd 5)∧True)∧((True∧∀ (ks : List Int) (x : Int), x = cI (ks.getD (0 : Nat) (0 : Int)) (ks.getD (1 : Nat) (0 : Int))→x = cI (ks.getD (0 : Nat) (0 : Int)) (ks.getD (1 : Nat) (0 : Int)))∧True)∧((True∧∀ (ks : List Int) (x : Int), x = cI (ks.getD (0 : Nat) (0 : Int)) (ks.getD (1 : Nat) (0 : Int))→x = cI (ks.getD (0 : Nat) (0 : Int)) (ks.getD (1 : Nat) (0 : Int)))∧True)∧((!ruleOk (↑g.fst : Int) g.snd) = true→(((71 : Int) != (0 : Int)) = true→(True∧(0 : Int) = prW { n := n, m := m, N := N, r := r, no := no, op := op })∧(True∧(0 : Int) = prA { n := n, m := m, N := N, r := r, no := no, op := op })∧(True∧(71 : Int) = prE { n := n, m := m, N := N, r := r, no := no, op := op })∧True)∧(((71 : Int) != (0 : Int)) = false→(∃ (g : Nat), g≤no∧True∧((True∧decide ((↑no : Int)≤N) = (decide ((↑no : Int)≤N) && allB g fun (k : Nat) => barOk (op k)))∧(True∧(0 : Int) = (↑g : Int))∧True)∧True)∧∀ (g : Nat), g≤no→(decide ((↑g : Int) < (↑no : Int)) = true→(0 : Int)≤(↑g : Int)∧(↑g : Int) < (↑no : Int)∧((decide ((↑no : Int)≤N) && allB g fun (k : Nat) => barOk (op k)) = true→∃ (x : Nat→Int), ((True∧(((True∧True∧op g 0 = x 0)∧True∧op g 1 = x 1)∧True∧op g 2 = x 2)∧True∧op g 3 = x 3)∧True)∧True∧inRange IntKind.i64 ((↑g : Int) + (1 : Int))∧∃ (g' : Nat), g'≤no∧no - g' < no - g∧True∧((True∧barOk x = (decide ((↑no : Int)≤N) && allB g' fun (k : Nat) => barOk (op k)))∧(True∧(↑g : Int) + (1 : Int) = (↑g' : Int))∧True)∧True)∧((decide ((↑no : Int)≤N) && allB g fun (k : Nat) => barOk (op k)) = false→inRange IntKind.i64 ((↑g : Int) + (1 : Int))∧∃ (g' : Nat), g'≤no∧no - g' < no - g∧True∧((True∧(decide ((↑no : Int)≤N) && allB g' fun (k : Nat) => barOk (op k)) = false)∧(True∧(↑g : Int) + (1 : Int) = (↑g' : Int))∧True)∧True))∧(decide ((↑g : Int) < (↑no : Int)) = false→((!(decide ((↑no : Int)≤N) && allB g fun (k : Nat) => barOk (op k))) = true→(True∧(0 : Int) = prW { n := n, m := m, N := N, r := r, no := no, op := op })∧(True∧(0 : Int) = prA { n := n, m := m, N := N, r := r, no := no, op := op })∧(True∧(73 : Int) = prE { n := n, m := m, N := N, r := r, no := no, op := op })∧True)∧((!(decide ((↑no : Int)≤N) && allB g fun (k : Nat) => barOk (op k))) = false→inRange IntKind.i64 (N + (1 : Int))∧(∃ (g : Nat), g≤N.toNat + (1 : Nat)∧True∧((True∧(0 : Int) = (↑g : Int))∧True)∧(True∧True∧True∧(-1 : Int) = vAl { n := n, m := m, N := N, r := r, no := no, op := op } g)∧True)∧∀ (g : Nat), g≤N.toNat + (1 : Nat)→(decide ((↑g : Int) < N + (1 : Int)) = true→inRange IntKind.i64 ((↑g : Int) + (1 : Int))∧(∃ (g_1 : Nat × Nat), ((↑g : Int) = (↑g_1.fst : Int)∧g_1.snd≤g_1.fst + (1 : Nat))∧True∧((True∧(0 : Int) = (↑g_1.snd : Int))∧True)∧(True∧True∧True∧vAl { n := n, m := m, N := N, r := r, no := no, op := op } g = if g_1.fst = no then alw N.toNat no r g_1.snd else vAl { n := n, m := m, N := N, r := r, no := no, op := op } g_1.fst)∧True)∧∀ (g_1 : Nat × Nat), (↑g : Int) = (↑g_1.fst : Int)∧g_1.snd≤g_1.fst + (1 : Nat)→(decide ((↑g_1.snd : Int) < (↑g : Int) + (1 : Int)) = true→(((↑g : Int) == (↑no : Int)) = true→(lookFn fnTab (36 : Nat)).isSome = true∧∃ (g_2 : KeepIn), g_2.wf∧True∧((True∧(True∧True∧N = (↑g_2.N : Int))∧True)∧(True∧(((((True∧True∧r 0 = g_2.r 0)∧True∧r 1 = g_2.r 1)∧True∧r 2 = g_2.r 2)∧True∧r 3 = g_2.r 3)∧True∧r 4 = g_2.r 4)∧True∧r 5 = g_2.r 5)∧(True∧(True∧True∧(↑g : Int) = (↑g_2.o : Int))∧True∧(↑g_1.snd : Int) = (↑g_2.a : Int))∧True)∧((True∧∀ (ks : List Int) (x : Int), x = cI (ks.getD (0 : Nat) (0 : Int)) (ks.getD (1 : Nat) (0 : Int))→x = cI (ks.getD (0 : Nat) (0 : Int)) (ks.getD (1 : Nat) (0 : Int)))∧True)∧((True∧∀ (ks : List Int) (x : Int), x = cI (ks.getD (0 : Nat) (0 : Int)) (ks.getD (1 : Nat) (0 : Int))→x = cI (ks.getD (0 : Nat) (0 : Int)) (ks.getD (1 : Nat) (0 : Int)))∧True)∧(keeps g_2.N g_2.o g_2.a g_2.r = true→inRange IntKind.i64 ((↑g_1.snd : Int) + (1 : Int))∧∃ (g' : Nat × Nat), ((↑g : Int) = (↑g'.fst : Int)∧g'.snd≤g'.fst + (1 : Nat))∧g'.fst + (1 : Nat) - g'.snd < g_1.fst + (1 : Nat) - g_1.snd∧True∧((True∧(↑g_1.snd : Int) + (1 : Int) = (↑g'.snd : Int))∧True)∧(True∧True∧True∧(↑g_1.snd : Int) = if g'.fst = no then alw N.toNat no r g'.snd else vAl { n := n, m := m, N := N, r := r, no := no, op := op } g'.fst)∧True)∧(keeps g_2.N g_2.o g_2.a g_2.r = false→inRange IntKind.i64 ((↑g_1.snd : Int) + (1 : Int))∧∃ (g' : Nat × Nat), ((↑g : Int) = (↑g'.fst : Int)∧g'.snd≤g'.fst + (1 : Nat))∧g'.fst + (1 : Nat) - g'.snd < g_1.fst + (1 : Nat) - g_1.snd∧True∧((True∧(↑g_1.snd : Int) + (1 : Int) = (↑g'.snd : Int))∧True)∧(True∧True∧True∧(if g_1.fst = no then alw N.toNat no r g_1.snd else vAl { n := n, m := m, N := N, r := r, no := no, op := op } g_1.fst) = if g'.fst = no then alw N.toNat no r g'.snd else vAl { n := n, m := m, N := N, r := r, no := no, op := op } g'.fst)∧True))∧(((↑g : Int) == (↑no : Int)) = false→inRange IntKind.i64 ((↑g_1.snd : Int) + (1 : Int))∧∃ (g' : Nat × Nat), ((↑g : Int) = (↑g'.fst : Int)∧g'.snd≤g'.fst + (1 : Nat))∧g'.fst + (1 : Nat) - g'.snd < g_1.fst + (1 : Nat) - g_1.snd∧True∧((True∧(↑g_1.snd : Int) + (1 : Int) = (↑g'.snd : Int))∧True)∧(True∧True∧True∧(if g_1.fst = no then alw N.toNat no r g_1.snd else vAl { n := n, m := m, N := N, r := r, no := no, op := op } g_1.fst) = if g'.fst = no then alw N.toNat no r g'.snd else vAl { n := n, m := m, N := N, r := r, no := no, op := op } g'.fst)∧True))∧(decide ((↑g_1.snd : Int) < (↑g : Int) + (1 : Int)) = false→inRange IntKind.i64 ((↑g : Int) + (1 : Int))∧∃ (g' : Nat), g'≤N.toNat + (1 : Nat)∧N.toNat + (1 : Nat) - g' < N.toNat + (1 : Nat) - g∧True∧((True∧(↑g : Int) + (1 : Int) = (↑g' : Int))∧True)∧(True∧True∧True∧(if g_1.fst = no then alw N.toNat no r g_1.snd else vAl { n := n, m := m, N := N, r := r, no := no, op := op } g_1.fst) = vAl { n := n, m := m, N := N, r := r, no := no, op := op } g')∧True))∧(decide ((↑g : Int) < N + (1 : Int)) = false→(∃ (g : Nat), (g≤n∧∀ (k : Nat), k < g→¬(↑(cnt (m k) op no) : Int)≤prAl { n := n, m := m, N := N, r := r, no := no, op := op })∧True∧((True∧(0 : Int) = (↑g : Int))∧True)∧True)∧∀ (g_1 : Nat), (g_1≤n∧∀ (k : Nat), k < g_1→¬(↑(cnt (m k) op no) : Int)≤prAl { n := n, m := m, N := N, r := r, no := no, op := op })→(decide ((↑g_1 : Int) < (↑n : Int)) = true→(0 : Int)≤(↑g_1 : Int)∧(↑g_1 : Int) < (↑n : Int)∧(∃ (g : Nat × Nat), ((↑g_1 : Int) = (↑g.fst : Int)∧g.snd≤no)∧True∧((True∧(0 : Int) = (↑(cnt (m g.fst) op g.snd) : Int))∧(True∧(0 : Int) = (↑g.snd : Int))∧True)∧True)∧∀ (g_2 : Nat × Nat), (↑g_1 : Int) = (↑g_2.fst : Int)∧g_2.snd≤no→(decide ((↑g_2.snd : Int) < (↑no : Int)) = true→(0 : Int)≤(↑g_2.snd : Int)∧(↑g_2.snd : Int) < (↑no : Int)∧∃ (x : (Nat→Int) × (Nat→Int)), ((True∧(((((((True∧True∧m g_1 0 = x.fst 0)∧True∧m g_1 1 = x.fst 1)∧True∧m g_1 2 = x.fst 2)∧True∧m g_1 3 = x.fst 3)∧True∧m g_1 4 = x.fst 4)∧True∧m g_1 5 = x.fst 5)∧True∧m g_1 6 = x.fst 6)∧True∧m g_1 7 = x.fst 7)∧(True∧(((True∧True∧op g_2.snd 0 = x.snd 0)∧True∧op g_2.snd 1 = x.snd 1)∧True∧op g_2.snd 2 = x.snd 2)∧True∧op g_2.snd 3 = x.snd 3)∧True)∧markOk x.fst = true∧((!reach x.fst x.snd) = true→inRange IntKind.i64 ((↑(cnt (m g_2.fst) op g_2.snd) : Int) + (1 : Int))∧inRange IntKind.i64 ((↑g_2.snd : Int) + (1 : Int))∧∃ (g' : Nat × Nat), ((↑g_1 : Int) = (↑g'.fst : Int)∧g'.snd≤no)∧no - g'.snd < no - g_2.snd∧True∧((True∧(↑(cnt (m g_2.fst) op g_2.snd) : Int) + (1 : Int) = (↑(cnt (m g'.fst) op g'.snd) : Int))∧(True∧(↑g_2.snd : Int) + (1 : Int) = (↑g'.snd : Int))∧True)∧True)∧((!reach x.fst x.snd) = false→inRange IntKind.i64 ((↑g_2.snd : Int) + (1 : Int))∧∃ (g' : Nat × Nat), ((↑g_1 : Int) = (↑g'.fst : Int)∧g'.snd≤no)∧no - g'.snd < no - g_2.snd∧True∧((True∧(↑(cnt (m g_2.fst) op g_2.snd) : Int) = (↑(cnt (m g'.fst) op g'.snd) : Int))∧(True∧(↑g_2.snd : Int) + (1 : Int) = (↑g'.snd : Int))∧True)∧True))∧(decide ((↑g_2.snd : Int) < (↑no : Int)) = false→(decide ((↑(cnt (m g_2.fst) op g_2.snd) : Int)≤vAl { n := n, m := m, N := N, r := r, no := no, op := op } g) = true→(True∧(↑g_1 : Int) = prW { n := n, m := m, N := N, r := r, no := no, op := op })∧(True∧vAl { n := n, m := m, N := N, r := r, no := no, op := op } g = prA { n := n, m := m, N := N, r := r, no := no, op := op })∧(True∧(0 : Int) = prE { n := n, m := m, N := N, r := r, no := no, op := op })∧True)∧(decide ((↑(cnt (m g_2.fst) op g_2.snd) : Int)≤vAl { n := n, m := m, N := N, r := r, no := no, op := op } g) = false→inRange IntKind.i64 ((↑g_1 : Int) + (1 : Int))∧∃ (g' : Nat), (g'≤n∧∀ (k : Nat), k < g'→¬(↑(cnt (m k) op no) : Int)≤prAl { n := n, m := m, N := N, r := r, no := no, op := op })∧n - g' < n - g_1∧True∧((True∧(↑g_1 : Int) + (1 : Int) = (↑g' : Int))∧True)∧True)))∧(decide ((↑g_1 : Int) < (↑n : Int)) = false→(True∧(0 : Int) = prW { n := n, m := m, N := N, r := r, no := no, op := op })∧(True∧(0 : Int) = prA { n := n, m := m, N := N, r := r, no := no, op := op })∧(True∧(4 : Int) = prE { n := n, m := m, N := N, r := r, no := no, op := op })∧True))))))∧((!ruleOk (↑g.fst : Int) g.snd) = false→(((0 : Int) != (0 : Int)) = true→(True∧(0 : Int) = prW { n := n, m := m, N := N, r := r, no := no, op := op })∧(True∧(0 : Int) = prA { n := n, m := m, N := N, r := r, no := no, op := op })∧(True∧(0 : Int) = prE { n := n, m := m, N := N, r := r, no := no, op := op })∧True)∧(((0 : Int) != (0 : Int)) = false→(∃ (g : Nat), g≤no∧True∧((True∧decide ((↑no : Int)≤N) = (decide ((↑no : Int)≤N) && allB g fun (k : Nat) => barOk (op k)))∧(True∧(0 : Int) = (↑g : Int))∧True)∧True)∧∀ (g : Nat), g≤no→(decide ((↑g : Int) < (↑no : Int)) = true→(0 : Int)≤(↑g : Int)∧(↑g : Int) < (↑no : Int)∧((decide ((↑no : Int)≤N) && allB g fun (k : Nat) => barOk (op k)) = true→∃ (x : Nat→Int), ((True∧(((True∧True∧op g 0 = x 0)∧True∧op g 1 = x 1)∧True∧op g 2 = x 2)∧True∧op g 3 = x 3)∧True)∧True∧inRange IntKind.i64 ((↑g : Int) + (1 : Int))∧∃ (g' : Nat), g'≤no∧no - g' < no - g∧True∧((True∧barOk x = (decide ((↑no : Int)≤N) && allB g' fun (k : Nat) => barOk (op k)))∧(True∧(↑g : Int) + (1 : Int) = (↑g' : Int))∧True)∧True)∧((decide ((↑no : Int)≤N) && allB g fun (k : Nat) => barOk (op k)) = false→inRange IntKind.i64 ((↑g : Int) + (1 : Int))∧∃ (g' : Nat), g'≤no∧no - g' < no - g∧True∧((True∧(decide ((↑no : Int)≤N) && allB g' fun (k : Nat) => barOk (op k)) = false)∧(True∧(↑g : Int) + (1 : Int) = (↑g' : Int))∧True)∧True))∧(decide ((↑g : Int) < (↑no : Int)) = false→((!(decide ((↑no : Int)≤N) && allB g fun (k : Nat) => barOk (op k))) = true→(True∧(0 : Int) = prW { n := n, m := m, N := N, r := r, no := no, op := op })∧(True∧(0 : Int) = prA { n := n, m := m, N := N, r := r, no := no, op := op })∧(True∧(73 : Int) = prE { n := n, m := m, N := N, r := r, no := no, op := op })∧True)∧((!(decide ((↑no : Int)≤N) && allB g fun (k : Nat) => barOk (op k))) = false→inRange IntKind.i64 (N + (1 : Int))∧(∃ (g : Nat), g≤N.toNat + (1 : Nat)∧True∧((True∧(0 : Int) = (↑g : Int))∧True)∧(True∧True∧True∧(-1 : Int) = vAl { n := n, m := m, N := N, r := r, no := no, op := op } g)∧True)∧∀ (g : Nat), g≤N.toNat + (1 : Nat)→(decide ((↑g : Int) < N + (1 : Int)) = true→inRange IntKind.i64 ((↑g : Int) + (1 : Int))∧(∃ (g_1 : Nat × Nat), ((↑g : Int) = (↑g_1.fst : Int)∧g_1.snd≤g_1.fst + (1 : Nat))∧True∧((True∧(0 : Int) = (↑g_1.snd : Int))∧True)∧(True∧True∧True∧vAl { n := n, m := m, N := N, r := r, no := no, op := op } g = if g_1.fst = no then alw N.toNat no r g_1.snd else vAl { n := n, m := m, N := N, r := r, no := no, op := op } g_1.fst)∧True)∧∀ (g_1 : Nat × Nat), (↑g : Int) = (↑g_1.fst : Int)∧g_1.snd≤g_1.fst + (1 : Nat)→(decide ((↑g_1.snd : Int) < (↑g : Int) + (1 : Int)) = true→(((↑g : Int) == (↑no : Int)) = true→(lookFn fnTab (36 : Nat)).isSome = true∧∃ (g_2 : KeepIn), g_2.wf∧True∧((True∧(True∧True∧N = (↑g_2.N : Int))∧True)∧(True∧(((((True∧True∧r 0 = g_2.r 0)∧True∧r 1 = g_2.r 1)∧True∧r 2 = g_2.r 2)∧True∧r 3 = g_2.r 3)∧True∧r 4 = g_2.r 4)∧True∧r 5 = g_2.r 5)∧(True∧(True∧True∧(↑g : Int) = (↑g_2.o : Int))∧True∧(↑g_1.snd : Int) = (↑g_2.a : Int))∧True)∧((True∧∀ (ks : List Int) (x : Int), x = cI (ks.getD (0 : Nat) (0 : Int)) (ks.getD (1 : Nat) (0 : Int))→x = cI (ks.getD (0 : Nat) (0 : Int)) (ks.getD (1 : Nat) (0 : Int)))∧True)∧((True∧∀ (ks : List Int) (x : Int), x = cI (ks.getD (0 : Nat) (0 : Int)) (ks.getD (1 : Nat) (0 : Int))→x = cI (ks.getD (0 : Nat) (0 : Int)) (ks.getD (1 : Nat) (0 : Int)))∧True)∧(keeps g_2.N g_2.o g_2.a g_2.r = true→inRange IntKind.i64 ((↑g_1.snd : Int) + (1 : Int))∧∃ (g' : Nat × Nat), ((↑g : Int) = (↑g'.fst : Int)∧g'.snd≤g'.fst + (1 : Nat))∧g'.fst + (1 : Nat) - g'.snd < g_1.fst + (1 : Nat) - g_1.snd∧True∧((True∧(↑g_1.snd : Int) + (1 : Int) = (↑g'.snd : Int))∧True)∧(True∧True∧True∧(↑g_1.snd : Int) = if g'.fst = no then alw N.toNat no r g'.snd else vAl { n := n, m := m, N := N, r := r, no := no, op := op } g'.fst)∧True)∧(keeps g_2.N g_2.o g_2.a g_2.r = false→inRange IntKind.i64 ((↑g_1.snd : Int) + (1 : Int))∧∃ (g' : Nat × Nat), ((↑g : Int) = (↑g'.fst : Int)∧g'.snd≤g'.fst + (1 : Nat))∧g'.fst + (1 : Nat) - g'.snd < g_1.fst + (1 : Nat) - g_1.snd∧True∧((True∧(↑g_1.snd : Int) + (1 : Int) = (↑g'.snd : Int))∧True)∧(True∧True∧True∧(if g_1.fst = no then alw N.toNat no r g_1.snd else vAl { n := n, m := m, N := N, r := r, no := no, op := op } g_1.fst) = if g'.fst = no then alw N.toNat no r g'.snd else vAl { n := n, m := m, N := N, r := r, no := no, op := op } g'.fst)∧True))∧(((↑g : Int) == (↑no : Int)) = false→inRange IntKind.i64 ((↑g_1.snd : Int) + (1 : Int))∧∃ (g' : Nat × Nat), ((↑g : Int) = (↑g'.fst : Int)∧g'.snd≤g'.fst + (1 : Nat))∧g'.fst + (1 : Nat) - g'.snd < g_1.fst + (1 : Nat) - g_1.snd∧True∧((True∧(↑g_1.snd : Int) + (1 : Int) = (↑g'.snd : Int))∧True)∧(True∧True∧True∧(if g_1.fst = no then alw N.toNat no r g_1.snd else vAl { n := n, m := m, N := N, r := r, no := no, op := op } g_1.fst) = if g'.fst = no then alw N.toNat no r g'.snd else vAl { n := n, m := m, N := N, r := r, no := no, op := op } g'.fst)∧True))∧(decide ((↑g_1.snd : Int) < (↑g : Int) + (1 : Int)) = false→inRange IntKind.i64 ((↑g : Int) + (1 : Int))∧∃ (g' : Nat), g'≤N.toNat + (1 : Nat)∧N.toNat + (1 : Nat) - g' < N.toNat + (1 : Nat) - g∧True∧((True∧(↑g : Int) + (1 : Int) = (↑g' : Int))∧True)∧(True∧True∧True∧(if g_1.fst = no then alw N.toNat no r g_1.snd else vAl { n := n, m := m, N := N, r := r, no := no, op := op } g_1.fst) = vAl { n := n, m := m, N := N, r := r, no := no, op := op } g')∧True))∧(decide ((↑g : Int) < N + (1 : Int)) = false→(∃ (g : Nat), (g≤n∧∀ (k : Nat), k < g→¬(↑(cnt (m k) op no) : Int)≤prAl { n := n, m := m, N := N, r := r, no := no, op := op })∧True∧((True∧(0 : Int) = (↑g : Int))∧True)∧True)∧∀ (g_1 : Nat), (g_1≤n∧∀ (k : Nat), k < g_1→¬(↑(cnt (m k) op no) : Int)≤prAl { n := n, m := m, N := N, r := r, no := no, op := op })→(decide ((↑g_1 : Int) < (↑n : Int)) = true→(0 : Int)≤(↑g_1 : Int)∧(↑g_1 : Int) < (↑n : Int)∧(∃ (g : Nat × Nat), ((↑g_1 : Int) = (↑g.fst : Int)∧g.snd≤no)∧True∧((True∧(0 : Int) = (↑(cnt (m g.fst) op g.snd) : Int))∧(True∧(0 : Int) = (↑g.snd : Int))∧True)∧True)∧∀ (g_2 : Nat × Nat), (↑g_1 : Int) = (↑g_2.fst : Int)∧g_2.snd≤no→(decide ((↑g_2.snd : Int) < (↑no : Int)) = true→(0 : Int)≤(↑g_2.snd : Int)∧(↑g_2.snd : Int) < (↑no : Int)∧∃ (x : (Nat→Int) × (Nat→Int)), ((True∧(((((((True∧True∧m g_1 0 = x.fst 0)∧True∧m g_1 1 = x.fst 1)∧True∧m g_1 2 = x.fst 2)∧True∧m g_1 3 = x.fst 3)∧True∧m g_1 4 = x.fst 4)∧True∧m g_1 5 = x.fst 5)∧True∧m g_1 6 = x.fst 6)∧True∧m g_1 7 = x.fst 7)∧(True∧(((True∧True∧op g_2.snd 0 = x.snd 0)∧True∧op g_2.snd 1 = x.snd 1)∧True∧op g_2.snd 2 = x.snd 2)∧True∧op g_2.snd 3 = x.snd 3)∧True)∧markOk x.fst = true∧((!reach x.fst x.snd) = true→inRange IntKind.i64 ((↑(cnt (m g_2.fst) op g_2.snd) : Int) + (1 : Int))∧inRange IntKind.i64 ((↑g_2.snd : Int) + (1 : Int))∧∃ (g' : Nat × Nat), ((↑g_1 : Int) = (↑g'.fst : Int)∧g'.snd≤no)∧no - g'.snd < no - g_2.snd∧True∧((True∧(↑(cnt (m g_2.fst) op g_2.snd) : Int) + (1 : Int) = (↑(cnt (m g'.fst) op g'.snd) : Int))∧(True∧(↑g_2.snd : Int) + (1 : Int) = (↑g'.snd : Int))∧True)∧True)∧((!reach x.fst x.snd) = false→inRange IntKind.i64 ((↑g_2.snd : Int) + (1 : Int))∧∃ (g' : Nat × Nat), ((↑g_1 : Int) = (↑g'.fst : Int)∧g'.snd≤no)∧no - g'.snd < no - g_2.snd∧True∧((True∧(↑(cnt (m g_2.fst) op g_2.snd) : Int) = (↑(cnt (m g'.fst) op g'.snd) : Int))∧(True∧(↑g_2.snd : Int) + (1 : Int) = (↑g'.snd : Int))∧True)∧True))∧(decide ((↑g_2.snd : Int) < (↑no : Int)) = false→(decide ((↑(cnt (m g_2.fst) op g_2.snd) : Int)≤vAl { n := n, m := m, N := N, r := r, no := no, op := op } g) = true→(True∧(↑g_1 : Int) = prW { n := n, m := m, N := N, r := r, no := no, op := op })∧(True∧vAl { n := n, m := m, N := N, r := r, no := no, op := op } g = prA { n := n, m := m, N := N, r := r, no := no, op := op })∧(True∧(0 : Int) = prE { n := n, m := m, N := N, r := r, no := no, op := op })∧True)∧(decide ((↑(cnt (m g_2.fst) op g_2.snd) : Int)≤vAl { n := n, m := m, N := N, r := r, no := no, op := op } g) = false→inRange IntKind.i64 ((↑g_1 : Int) + (1 : Int))∧∃ (g' : Nat), (g'≤n∧∀ (k : Nat), k < g'→¬(↑(cnt (m k) op no) : Int)≤prAl { n := n, m := m, N := N, r := r, no := no, op := op })∧n - g' < n - g_1∧True∧((True∧(↑g_1 : Int) + (1 : Int) = (↑g' : Int))∧True)∧True)))∧(decide ((↑g_1 : Int) < (↑n : Int)) = false→(True∧(0 : Int) = prW { n := n, m := m, N := N, r := r, no := no, op := op })∧(True∧(0 : Int) = prA { n := n, m := m, N := N, r := r, no := no, op := op })∧(True∧(4 : Int) = prE { n := n, m := m, N := N, r := r, no := no, op := op })∧True))))))))) (by kernel_rfl) ?_
 obtain ⟨hn, hno⟩ : n < 4611686018427387904 ∧ no < 4611686018427387904 := h
 simp only [true_and, and_true, inR, Prod.exists, Prod.forall, and_assoc, exists_and_left, exists_eq_left', exists_eq_left, forall_eq, exists_const, forall_const, loopN, loopM, fa2, fas, fas2, dup1, dup2, dup3, dup4, ite_true, exhs, exhn, exhz, exho, exA, ex1, ex2, ex3, ex4, ex5, beqI, bneI, decide_true, Bool.true_and, decide_eq_true_eq, decide_eq_false_iff_not, ne_eq, Decidable.not_not]
 have f70 : ¬ marksOk n m = true → 0 = prW (⟨n, m, N, r, no, op⟩ : PrIn) ∧ 0 = prA (⟨n, m, N, r, no, op⟩ : PrIn) ∧ 70 = prE (⟨n, m, N, r, no, op⟩ : PrIn) := pr_70 (x := (⟨n, m, N, r, no, op⟩ : PrIn))
 have f7 : marksOk n m = true → ¬ within N 1 40 = true → 0 = prW (⟨n, m, N, r, no, op⟩ : PrIn) ∧ 0 = prA (⟨n, m, N, r, no, op⟩ : PrIn) ∧ 7 = prE (⟨n, m, N, r, no, op⟩ : PrIn) := pr_7 (x := (⟨n, m, N, r, no, op⟩ : PrIn))
 have f71 : marksOk n m = true → within N 1 40 = true → ¬ ruleOk N r = true → 0 = prW (⟨n, m, N, r, no, op⟩ : PrIn) ∧ 0 = prA (⟨n, m, N, r, no, op⟩ : PrIn) ∧ 71 = prE (⟨n, m, N, r, no, op⟩ : PrIn) := pr_71 (x := (⟨n, m, N, r, no, op⟩ : PrIn))
 have f73 : marksOk n m = true → within N 1 40 = true → ruleOk N r = true → ¬ (decide ((no : Int) ≤ N) && allB no fun k => barOk (op k)) = true → 0 = prW (⟨n, m, N, r, no, op⟩ : PrIn) ∧ 0 = prA (⟨n, m, N, r, no, op⟩ : PrIn) ∧ 73 = prE (⟨n, m, N, r, no, op⟩ : PrIn) := pr_73 (x := (⟨n, m, N, r, no, op⟩ : PrIn))
 have f4 : marksOk n m = true → within N 1 40 = true → ruleOk N r = true → (decide ((no : Int) ≤ N) && allB no fun k => barOk (op k)) = true → (∀ i, i < n → ¬ (cnt (m i) op no : Int) ≤ prAl (⟨n, m, N, r, no, op⟩ : PrIn)) → 0 = prW (⟨n, m, N, r, no, op⟩ : PrIn) ∧ 0 = prA (⟨n, m, N, r, no, op⟩ : PrIn) ∧ 4 = prE (⟨n, m, N, r, no, op⟩ : PrIn) := pr_4 (x := (⟨n, m, N, r, no, op⟩ : PrIn))
 have f0 : marksOk n m = true → within N 1 40 = true → ruleOk N r = true → (decide ((no : Int) ≤ N) && allB no fun k => barOk (op k)) = true → ∀ {i : Nat}, i < n → (∀ k, k < i → ¬ (cnt (m k) op no : Int) ≤ prAl (⟨n, m, N, r, no, op⟩ : PrIn)) → (cnt (m i) op no : Int) ≤ prAl (⟨n, m, N, r, no, op⟩ : PrIn) → (i : Int) = prW (⟨n, m, N, r, no, op⟩ : PrIn) ∧ prAl (⟨n, m, N, r, no, op⟩ : PrIn) = prA (⟨n, m, N, r, no, op⟩ : PrIn) ∧ 0 = prE (⟨n, m, N, r, no, op⟩ : PrIn) := fun a b c d {i} => pr_0 (x := (⟨n, m, N, r, no, op⟩ : PrIn)) a b c d
 have cl := fun i k => cnt_le (m := m i) (op := op) k
 have ce : ∀ i k, reach (m i) (op k) = false → cnt (m i) op (k + 1) = cnt (m i) op k + 1 := fun i k h => by
   show cnt (m i) op k + (if reach (m i) (op k) then 0 else 1) = _
   rw [h]; rfl
 have cs : ∀ i k, reach (m i) (op k) = true → cnt (m i) op (k + 1) = cnt (m i) op k := fun i k h => by
   show cnt (m i) op k + (if reach (m i) (op k) then 0 else 1) = _
   rw [h]; rfl
 have bs : ∀ i, (allB (i + 1) fun k => barOk (op k)) = ((allB i fun k => barOk (op k)) && barOk (op i)) := fun _ => rfl
 refine ⟨m, fun _ _ => ⟨rfl, rfl, rfl, rfl, rfl, rfl, rfl, rfl⟩, hn, fun h1 => f70 (by simpa using h1), fun h1 => ?_⟩
 have h1 : marksOk n m = true := by simpa using h1
 have mk : ∀ i, i < n → markOk (m i) = true := fun i hi => by
   have : (within n 1 5 && allB n fun k => markOk (m k)) = true := h1
   exact allB_iff.1 (Bool.and_eq_true_iff.1 this).2 i hi
 refine ⟨fun hw => ⟨fun _ => f7 h1 (by simpa using hw), fun h => absurd h (by omega)⟩, fun hw => ?_⟩
 have hw : within N 1 40 = true := by simpa using hw
 have w1 := Bm.within_iff.1 hw
 obtain ⟨k, rfl⟩ : ∃ k : Nat, N = k := ⟨N.toNat, by omega⟩
 refine ⟨fun _ _ h => (by cases h), is60, k, by omega, rfl, r, rfl, rfl, rfl, rfl, rfl, rfl, fun h2 => ⟨fun _ => f71 h1 hw (by simpa using h2), fun h => absurd h (by omega)⟩, fun h2 => ?_⟩
 have h2 : ruleOk k r = true := by simpa using h2
 simp only [Int.toNat_natCast]
 refine ⟨fun h => absurd trivial h, Nat.zero_le _, by simp [allB], fun i hi => ⟨by omega, by omega, fun h3 => ⟨op i, rfl, rfl, rfl, rfl, by omega, by omega, by omega, by omega, ?_⟩, fun h3 => ⟨by omega, by omega, by omega, by omega, ?_⟩⟩, fun h3 => f73 h1 hw h2 (fun hc => by rw [hc] at h3; simp at h3), fun h3 => ?_⟩
 · rw [bs, ← Bool.and_assoc, h3, Bool.true_and]
 · rw [bs, ← Bool.and_assoc, h3, Bool.false_and]
 have h3 : (decide ((no : Int) ≤ (k : Int)) && allB no fun k => barOk (op k)) = true := by simpa using h3
 have hnk : no ≤ k := by
   have := (Bool.and_eq_true_iff.1 h3).1
   simp only [decide_eq_true_eq] at this
   omega
 have va : ∀ j, vAl ⟨n, m, (k : Int), r, no, op⟩ j = if no < j then alw k no r (no + 1) else -1 := fun j => by
   unfold vAl prAl
   simp only [Int.toNat_natCast]
 have pa : prAl ⟨n, m, (k : Int), r, no, op⟩ = alw k no r (no + 1) := rfl
 have at_ : ∀ b, keeps k no b r = true → alw k no r (b + 1) = b := fun b h => by
   show (if keeps k no b r then (b : Int) else alw k no r b) = b
   rw [h]; rfl
 have af : ∀ b, keeps k no b r = false → alw k no r (b + 1) = alw k no r b := fun b h => by
   show (if keeps k no b r then (b : Int) else alw k no r b) = _
   rw [h]; rfl
 simp only [va, pa] at f4 f0 ⊢
 refine ⟨by omega, by omega, ⟨0, by omega, rfl, by rw [if_neg (Nat.not_lt_zero _)]⟩, fun j hj => ⟨fun hlt => ⟨by omega, by omega, ⟨0, by omega, rfl, ?_⟩, fun b hb => ⟨fun hb2 => ⟨fun e => ⟨is36, ⟨k, j, b, r⟩, ⟨by show k ≤ 40; omega, by show j ≤ k; omega, by show b ≤ j; omega, h2⟩, rfl, rfl, rfl, rfl, rfl, rfl, rfl, rfl, rfl, fun hk => ⟨by omega, by omega, b + 1, by omega, by omega, rfl, ?_⟩, fun hk => ⟨by omega, by omega, b + 1, by omega, by omega, rfl, ?_⟩⟩, fun ne => ⟨by omega, by omega, b + 1, by omega, by omega, rfl, ?_⟩⟩, fun hb2 => ⟨by omega, by omega, j + 1, by omega, by omega, rfl, ?_⟩⟩⟩, fun hge => ?_⟩⟩
 · by_cases e : j = no
   · subst e; rw [if_neg (Nat.lt_irrefl _), if_pos rfl]; rfl
   · rw [if_neg e]
 · obtain rfl : j = no := by omega
   rw [if_pos rfl]; exact (at_ b hk).symm
 · obtain rfl : j = no := by omega
   rw [if_pos rfl, if_pos rfl]; exact (af b hk).symm
 · have ne : ¬ j = no := fun h => ne (by omega)
   rw [if_neg ne, if_neg ne]
 · obtain rfl : b = j + 1 := by omega
   by_cases e : j = no
   · subst e; rw [if_pos rfl, if_pos (Nat.lt_succ_self _)]
   · rw [if_neg e]
     by_cases c : no < j
     · rw [if_pos c, if_pos (by omega)]
     · rw [if_neg c, if_neg (by omega)]
 · obtain rfl : j = k + 1 := by omega
   rw [if_pos (by omega : no < k + 1)]
   refine ⟨Nat.zero_le _, fun q hq => absurd hq (Nat.not_lt_zero q), fun i hi hpre => ⟨by omega, by omega, Nat.zero_le _, rfl, fun q hq => ⟨by omega, by omega, m i, rfl, rfl, rfl, rfl, rfl, rfl, rfl, rfl, op q, rfl, rfl, rfl, rfl, mk i hi, fun h4 => ?_, fun h4 => ?_⟩, fun h4 => f0 h1 hw h2 h3 hi hpre h4, fun h4 => ⟨by omega, by omega, by omega, fun q hq => ?_, by omega⟩⟩, fun hall => f4 h1 hw h2 h3 hall⟩
   · have := cl i q
     have e := ce i q (by simpa using h4)
     exact ⟨by omega, by omega, by omega, by omega, by omega, by omega, by omega⟩
   · have e := cs i q (by simpa using h4)
     exact ⟨by omega, by omega, by omega, by omega, by omega⟩
   · by_cases e : q = i
     · subst e; exact h4
     · exact hpre q (by omega)
end Go.Proofs.Ytpigkgoooekcgaa
namespace Go.Sx
open Go
variable {P : Program} {E : Env}
end Go.Sx
namespace Go.Proofs.Ytpigkgoooekcgaa
open Go Go.Sx Bm
set_option maxRecDepth 100000
set_option maxHeartbeats 4000000
theorem q39 (x : sIn.α) : CallQ Try.prog E0 39 (sIn.arg x) (sIn.res x) := by
 refine bare_all E0_ok [] SigsOk.nil [] EvensOk.nil runs [] [] [] [] (fuel := 5) ?_
 refine of_red (q := (decide (x.snd.fst≤x.fst) = true→True∧decide (x.fst≤x.snd.snd) = within x.fst x.snd.fst x.snd.snd)∧(decide (x.snd.fst≤x.fst) = false→True∧within x.fst x.snd.fst x.snd.snd = false)) (by kernel_rfl) ?_
 simp [within]
 try omega
def sSpn : Sig := ⟨(Int × Int) × Int, fun x => [spanTV x.1.1 x.1.2, intC x.2], fun _ => True, fun x => [.v (.c (.bool (decide (0 ≤ x.1.1) && decide (x.1.1 ≤ x.1.2) && decide (x.1.2 ≤ x.2))))]⟩
theorem q63 (x : sSpn.α) : CallQ Try.prog E0 63 (sSpn.arg x) (sSpn.res x) := by
 refine bare_say E0_ok [] SigsOk.nil [] EvensOk.nil runs {} (fuel := 5) ?_
 refine of_red (q := (decide ((0 : Int)≤x.fst.fst) = true→(decide (x.fst.fst≤x.fst.snd) = true→True∧decide (x.fst.snd≤x.snd) = (decide ((0 : Int)≤x.fst.fst) && decide (x.fst.fst≤x.fst.snd) && decide (x.fst.snd≤x.snd)))∧(decide (x.fst.fst≤x.fst.snd) = false→True∧(decide ((0 : Int)≤x.fst.fst) && decide (x.fst.fst≤x.fst.snd) && decide (x.fst.snd≤x.snd)) = false))∧(decide ((0 : Int)≤x.fst.fst) = false→True∧(decide ((0 : Int)≤x.fst.fst) && decide (x.fst.fst≤x.fst.snd) && decide (x.fst.snd≤x.snd)) = false)) (by kernel_rfl) ?_
 simp only [true_and, and_true, inR, Prod.exists, Prod.forall, and_assoc, exists_and_left, exists_eq_left', exists_eq_left, forall_eq, exists_const, forall_const, loopN, loopM, fa2, fas, fas2, dup1, dup2, dup3, dup4, ite_true, exhs, exhn, exhz, exho, exA, ex1, ex2, ex3, ex4, ex5, beqI, bneI, decide_true, Bool.true_and, decide_eq_true_eq, decide_eq_false_iff_not, ne_eq, Decidable.not_not]
 exact ⟨fun a => ⟨fun b => by simp [a, b], fun b => by simp [b]⟩, fun a => by simp [a]⟩
def casksCV (n : Nat) (y : Nat → Nat → Int) : CV := .vs 5 n (fun i j => .int .i64 (y i j))
def caskOk (y : Nat → Int) : Bool := within (y 1) 1 1000 && within (y 0) 0 (y 1) && within (y 2) 0 (y 1) && (decide (0 ≤ y 3) && decide (y 3 ≤ y 4) && decide (y 4 ≤ 1000))
def yardOk (n : Nat) (y : Nat → Nat → Int) : Bool := within n 1 4 && allB n (fun i => caskOk (y i))
structure YdIn where
 n : Nat
 y : Nat → Nat → Int
def TI0 : List (Nat × Sig) := (63, sSpn) :: (39, sIn) :: TH
theorem TI0_ok : SigsOk Try.prog E0 TI0 := (TH_ok.cons (runs 39 (by kernel_rfl)) fun x _ => q39 x).cons (runs 63 (by kernel_rfl)) fun x _ => q63 x
def sYard : Sig := ⟨YdIn, fun x => [.c (casksCV x.n x.y)], fun x => x.n < 4611686018427387904, fun x => [.v (intC (if yardOk x.n x.y then 0 else 61))]⟩
def aYd (n : Nat) (y : Nat → Nat → Int) : Ann := { G := Nat, ok := fun _ i => i ≤ n, dom := fun _ => [], tm := fun _ i => [(12, .t (intC i)), (3, .t (.c (.bool (within n 1 4 && allB i (fun i => caskOk (y i))))))], hp := fun _ _ => [], mu := fun _ i => n - i }
theorem q38 (x : sYard.α) (h : sYard.pre x) : CallQ Try.prog E0 38 (sYard.arg x) (sYard.res x) := by
 obtain ⟨n, y⟩ := x
 refine bare_say E0_ok TI0 TI0_ok [] EvensOk.nil runs { l := [(38, 3, aYd n y)] } (fuel := 5) ?_
 refine of_red (q := ∃ (x : Int × Int × Int), ((True∧(↑n : Int) = x.fst)∧(True∧(1 : Int) = x.snd.fst)∧(True∧(4 : Int) = x.snd.snd)∧True)∧True∧(∃ (g : Nat), g≤n∧True∧((True∧(0 : Int) = (↑g : Int))∧(True∧within x.fst x.snd.fst x.snd.snd = (within (↑n : Int) (1 : Int) (4 : Int) && allB g fun (i : Nat) => caskOk (y i)))∧True)∧True)∧∀ (g : Nat), g≤n→(decide ((↑g : Int) < (↑n : Int)) = true→(0 : Int)≤(↑g : Int)∧(↑g : Int) < (↑n : Int)∧((within (↑n : Int) (1 : Int) (4 : Int) && allB g fun (i : Nat) => caskOk (y i)) = true→∃ (x : Int × Int × Int), ((True∧y g ((0 : Nat) + (nat_lit 0 + (1 : Nat))) = x.fst)∧(True∧(1 : Int) = x.snd.fst)∧(True∧(1000 : Int) = x.snd.snd)∧True)∧True∧(within x.fst x.snd.fst x.snd.snd = true→∃ (x : Int × Int × Int), ((True∧y g (0 : Nat) = x.fst)∧(True∧(0 : Int) = x.snd.fst)∧(True∧y g ((0 : Nat) + (nat_lit 0 + (1 : Nat))) = x.snd.snd)∧True)∧True∧(within x.fst x.snd.fst x.snd.snd = true→∃ (x : Int × Int × Int), ((True∧y g ((0 : Nat) + (nat_lit 1 + (1 : Nat))) = x.fst)∧(True∧(0 : Int) = x.snd.fst)∧(True∧y g ((0 : Nat) + (nat_lit 0 + (1 : Nat))) = x.snd.snd)∧True)∧True∧(within x.fst x.snd.fst x.snd.snd = true→∃ (x : (Int × Int) × Int), ((True∧(True∧True∧y g (nat_lit 0 + (nat_lit 2 + (1 : Nat))) = x.fst.fst)∧True∧y g (nat_lit 1 + (nat_lit 2 + (1 : Nat))) = x.fst.snd)∧(True∧(1000 : Int) = x.snd)∧True)∧True∧inRange IntKind.i64 ((↑g : Int) + (1 : Int))∧∃ (g' : Nat), g'≤n∧n - g' < n - g∧True∧((True∧(↑g : Int) + (1 : Int) = (↑g' : Int))∧(True∧(decide ((0 : Int)≤x.fst.fst) && decide (x.fst.fst≤x.fst.snd) && decide (x.fst.snd≤x.snd)) = (within (↑n : Int) (1 : Int) (4 : Int) && allB g' fun (i : Nat) => caskOk (y i)))∧True)∧True)∧(within x.fst x.snd.fst x.snd.snd = false→inRange IntKind.i64 ((↑g : Int) + (1 : Int))∧∃ (g' : Nat), g'≤n∧n - g' < n - g∧True∧((True∧(↑g : Int) + (1 : Int) = (↑g' : Int))∧(True∧(within (↑n : Int) (1 : Int) (4 : Int) && allB g' fun (i : Nat) => caskOk (y i)) = false)∧True)∧True))∧(within x.fst x.snd.fst x.snd.snd = false→inRange IntKind.i64 ((↑g : Int) + (1 : Int))∧∃ (g' : Nat), g'≤n∧n - g' < n - g∧True∧((True∧(↑g : Int) + (1 : Int) = (↑g' : Int))∧(True∧(within (↑n : Int) (1 : Int) (4 : Int) && allB g' fun (i : Nat) => caskOk (y i)) = false)∧True)∧True))∧(within x.fst x.snd.fst x.snd.snd = false→inRange IntKind.i64 ((↑g : Int) + (1 : Int))∧∃ (g' : Nat), g'≤n∧n - g' < n - g∧True∧((True∧(↑g : Int) + (1 : Int) = (↑g' : Int))∧(True∧(within (↑n : Int) (1 : Int) (4 : Int) && allB g' fun (i : Nat) => caskOk (y i)) = false)∧True)∧True))∧((within (↑n : Int) (1 : Int) (4 : Int) && allB g fun (i : Nat) => caskOk (y i)) = false→inRange IntKind.i64 ((↑g : Int) + (1 : Int))∧∃ (g' : Nat), g'≤n∧n - g' < n - g∧True∧((True∧(↑g : Int) + (1 : Int) = (↑g' : Int))∧(True∧(within (↑n : Int) (1 : Int) (4 : Int) && allB g' fun (i : Nat) => caskOk (y i)) = false)∧True)∧True))∧(decide ((↑g : Int) < (↑n : Int)) = false→((!(within (↑n : Int) (1 : Int) (4 : Int) && allB g fun (i : Nat) => caskOk (y i))) = true→True∧(61 : Int) = if yardOk n y = true then (0 : Int) else (61 : Int))∧((!(within (↑n : Int) (1 : Int) (4 : Int) && allB g fun (i : Nat) => caskOk (y i))) = false→True∧(0 : Int) = if yardOk n y = true then (0 : Int) else (61 : Int)))) (by kernel_rfl) ?_
 simp only [true_and, and_true, inR, Prod.exists, Prod.forall, and_assoc, exists_and_left, exists_eq_left', exists_eq_left, forall_eq, exists_const, forall_const, loopN, loopM, fa2, fas, fas2, dup1, dup2, dup3, dup4, ite_true, exhs, exhn, exhz, exho, exA, ex1, ex2, ex3, ex4, ex5, beqI, bneI, decide_true, Bool.true_and, decide_eq_true_eq, decide_eq_false_iff_not, ne_eq, Decidable.not_not]
 have h : n < 4611686018427387904 := h
 refine ⟨⟨0, Nat.zero_le _, rfl, by show within n 1 4 = (within n 1 4 && true); rw [Bool.and_true]⟩, fun g hg => ?_, fun w => ?_, fun w => ?_⟩
 · have st : (within n 1 4 && allB (g + 1) fun i => caskOk (y i)) = ((within n 1 4 && allB g fun i => caskOk (y i)) && caskOk (y g)) := (Bool.and_assoc ..).symm
   refine ⟨by omega, by omega, fun hw => ⟨fun c1 => ⟨fun c2 => ⟨fun c3 => ⟨by omega, by omega, g + 1, by omega, by omega, by omega, ?_⟩, fun c3 => ⟨by omega, by omega, g + 1, by omega, by omega, by omega, ?_⟩⟩, fun c2 => ⟨by omega, by omega, g + 1, by omega, by omega, by omega, ?_⟩⟩, fun c1 => ⟨by omega, by omega, g + 1, by omega, by omega, by omega, ?_⟩⟩, fun hw => ⟨by omega, by omega, g + 1, by omega, by omega, by omega, ?_⟩⟩
   · have c1 : within (y g 1) 1 1000 = true := c1
     have c2 : within (y g 0) 0 (y g 1) = true := c2
     have c3 : within (y g 2) 0 (y g 1) = true := c3
     rw [st, hw]; unfold caskOk; rw [c1, c2, c3]; simp
   · have c3 : within (y g 2) 0 (y g 1) = false := c3
     rw [st]; unfold caskOk; rw [c3]; simp
   · have c2 : within (y g 0) 0 (y g 1) = false := c2
     rw [st]; unfold caskOk; rw [c2]; simp
   · have c1 : within (y g 1) 1 1000 = false := c1
     rw [st]; unfold caskOk; rw [c1]; simp
   · rw [st, hw]; rfl
 · have w : yardOk n y = false := Eq.mp (Bool.not_eq_true' _) w
   rw [if_neg (by rw [w]; decide)]
 · have w : yardOk n y = true := Eq.mp (Bool.not_eq_false' _) w
   rw [if_pos w]
def levTV (l : Nat → Int) : TV := .a 4 (fun j => .int .i64 (l j))
def begF (n : Nat) (y : Nat → Nat → Int) (j : Nat) : Int := if j < n then y j 0 else 0
def sBeg : Sig := ⟨YdIn, fun x => [.c (casksCV x.n x.y)], fun x => x.n ≤ 4, fun x => [.v (levTV (begF x.n x.y))]⟩
def aBg (n : Nat) (y : Nat → Nat → Int) : Ann := { G := Nat, ok := fun _ i => i ≤ n, dom := fun st => [osN (st.tm 3)], tm := fun _ i => [(7, .t (intC i))], hp := fun st i => [(osN (st.tm 3), .self, some (.box 4 (fun j => .int .i64 (begF i y j))))], mu := fun _ i => n - i }
theorem q43 (x : sBeg.α) (h : sBeg.pre x) : CallQ Try.prog E0 43 (sBeg.arg x) (sBeg.res x) := by
 obtain ⟨n, y⟩ := x
 refine bare_say E0_ok TI0 TI0_ok [] EvensOk.nil runs { l := [(43, 3, aBg n y)] } (fuel := 5) ?_
 refine of_red (q := (∃ (g : Nat), g≤n∧True∧((True∧(0 : Int) = (↑g : Int))∧True)∧(True∧(((True∧True∧(0 : Int) = begF g y 0)∧True∧(0 : Int) = begF g y 1)∧True∧(0 : Int) = begF g y 2)∧True∧(0 : Int) = begF g y 3)∧True)∧∀ (g : Nat), g≤n→(decide ((↑g : Int) < (↑n : Int)) = true→(0 : Int)≤(↑g : Int)∧(↑g : Int) < (↑n : Int)∧(0 : Int)≤(↑g : Int)∧(↑g : Int) < (↑(4 : Nat) : Int)∧inRange IntKind.i64 ((↑g : Int) + (1 : Int))∧∃ (g' : Nat), g'≤n∧n - g' < n - g∧True∧((True∧(↑g : Int) + (1 : Int) = (↑g' : Int))∧True)∧(True∧(((True∧True∧(if nat_lit 0 = (0 : Nat) + g * (1 : Nat) + (0 : Nat) then y g (0 : Nat) else begF g y 0) = begF g' y 0)∧True∧(if nat_lit 1 = (0 : Nat) + g * (1 : Nat) + (0 : Nat) then y g (0 : Nat) else begF g y 1) = begF g' y 1)∧True∧(if nat_lit 2 = (0 : Nat) + g * (1 : Nat) + (0 : Nat) then y g (0 : Nat) else begF g y 2) = begF g' y 2)∧True∧(if nat_lit 3 = (0 : Nat) + g * (1 : Nat) + (0 : Nat) then y g (0 : Nat) else begF g y 3) = begF g' y 3)∧True)∧(decide ((↑g : Int) < (↑n : Int)) = false→True∧(((True∧True∧begF g y 0 = begF n y 0)∧True∧begF g y 1 = begF n y 1)∧True∧begF g y 2 = begF n y 2)∧True∧begF g y 3 = begF n y 3)) (by kernel_rfl) ?_
 simp only [true_and, and_true, inR, Prod.exists, Prod.forall, and_assoc, exists_and_left, exists_eq_left', exists_eq_left, forall_eq, exists_const, forall_const, loopN, loopM, fa2, fas, fas2, dup1, dup2, dup3, dup4, ite_true, exhs, exhn, exhz, exho, exA, ex1, ex2, ex3, ex4, ex5, beqI, bneI, decide_true, Bool.true_and, decide_eq_true_eq, decide_eq_false_iff_not, ne_eq, Decidable.not_not]
 have h : n ≤ 4 := h
 have st : ∀ g j, (if j = 0 + g * 1 + 0 then y g 0 else begF g y j) = begF (g + 1) y j := fun g j => by
   unfold begF
   by_cases e : j = g
   · subst e; rw [if_pos (by omega), if_pos (by omega)]
   · rw [if_neg (by omega)]
     by_cases c : j < g
     · rw [if_pos c, if_pos (by omega)]
     · rw [if_neg c, if_neg (by omega)]
 exact ⟨⟨0, Nat.zero_le _, rfl, rfl, rfl, rfl, rfl⟩, fun g hg => ⟨by omega, by omega, by omega, by omega, by omega, by omega, g + 1, by omega, by omega, by omega, st g 0, st g 1, st g 2, st g 3⟩⟩
def mostC (n : Nat) (y : Nat → Nat → Int) : CV := .fn 64 [] (fun _ _ => .any) 1 (fun _ => .ip 1 (fun _ => casksCV n y))
def sMost : Sig := ⟨YdIn, fun x => [.c (casksCV x.n x.y)], fun x => x.n < 4611686018427387904, fun x => [.v (.a 1 (fun _ => mostC x.n x.y))]⟩
theorem q42 (x : sMost.α) (h : sMost.pre x) : CallQ Try.prog E0 42 (sMost.arg x) (sMost.res x) := by
 obtain ⟨n, y⟩ := x
 refine bare_say E0_ok TI0 TI0_ok [] EvensOk.nil runs {} (fuel := 5) ?_
 refine of_red (q := True∧True∧True∧True∧True∧True∧True∧True∧True∧n = n∧∀ (i : Nat), i < n→((((True∧y i 0 = y i 0)∧y i 1 = y i 1)∧y i 2 = y i 2)∧y i 3 = y i 3)∧y i 4 = y i 4) (by kernel_rfl) ?_
 simp only [true_and, and_true, inR, Prod.exists, Prod.forall, and_assoc, exists_and_left, exists_eq_left', exists_eq_left, forall_eq, exists_const, forall_const, loopN, loopM, fa2, fas, fas2, dup1, dup2, dup3, dup4, ite_true, exhs, exhn, exhz, exho, exA, ex1, ex2, ex3, ex4, ex5, beqI, bneI, decide_true, Bool.true_and, decide_eq_true_eq, decide_eq_false_iff_not, ne_eq, Decidable.not_not]
 exact fun _ _ => trivial
structure LkIn where
 n : Nat
 y : Nat → Nat → Int
 m : Int
 b : Int
def sMo1 : Sig := ⟨LkIn, fun x => [intC x.m, intC x.b, .c (.ip 1 (fun _ => casksCV x.n x.y))], fun x => 0 ≤ x.b ∧ x.b < x.n, fun x => [.v (intC (x.y x.b.toNat 4))]⟩
theorem q64 (x : sMo1.α) (h : sMo1.pre x) : CallQ Try.prog E0 64 (sMo1.arg x) (sMo1.res x) := by
 obtain ⟨n, y, m, b⟩ := x
 refine bare_say E0_ok TI0 TI0_ok [] EvensOk.nil runs {} (fuel := 5) ?_
 refine of_red (q := (0 : Int)≤b∧b < (↑n : Int)∧True∧y b.toNat ((0 : Nat) + (nat_lit 0 + (1 : Nat)) + (nat_lit 2 + (1 : Nat))) = y b.toNat (4 : Nat)) (by kernel_rfl) ?_
 simp only [true_and, and_true, inR, Prod.exists, Prod.forall, and_assoc, exists_and_left, exists_eq_left', exists_eq_left, forall_eq, exists_const, forall_const, loopN, loopM, fa2, fas, fas2, dup1, dup2, dup3, dup4, ite_true, exhs, exhn, exhz, exho, exA, ex1, ex2, ex3, ex4, ex5, beqI, bneI, decide_true, Bool.true_and, decide_eq_true_eq, decide_eq_false_iff_not, ne_eq, Decidable.not_not]
 exact h
def lvI (l lk : Nat → Int) (i j : Nat) : Int := if j < i then imax 0 (l j - lk j) else l j
def dryI (y : Nat → Nat → Int) (l lk : Nat → Int) : Nat → Int
 | 0 => -1
 | i + 1 => if imax 0 (l i - lk i) < y i 2 ∧ dryI y l lk i < 0 then (i : Int) else dryI y l lk i
structure LdIn where
 n : Nat
 y : Nat → Nat → Int
 l : Nat → Int
 m : Int
structure LdIn.ok (x : LdIn) (lk : Nat → Int) : Prop where
 n4 : x.n ≤ 4
 l : ∀ j, j < x.n → 0 ≤ x.l j ∧ x.l j ≤ 1000
 k : ∀ j, j < x.n → 0 ≤ lk j ∧ lk j ≤ 1000
def lkM (x : LdIn) (i : Nat) : Int := x.y i 4
def sLdM : Sig := ⟨LdIn, fun x => [.c (casksCV x.n x.y), levTV x.l, intC x.m, .a 1 (fun _ => mostC x.n x.y)], fun x => x.ok (lkM x), fun x => [.v (levTV (lvI x.l (lkM x) x.n)), .v (intC (dryI x.y x.l (lkM x) x.n))]⟩
def aLk (n : Nat) (y : Nat → Nat → Int) (l lk : Nat → Int) : Ann := { G := Nat, ok := fun _ i => i ≤ n, dom := fun st => [osN (st.tm 5)], tm := fun _ i => [(14, .t (intC i)), (10, .t (intC (dryI y l lk i)))], hp := fun st i => [(osN (st.tm 5), .self, some (.box 4 (fun j => .int .i64 (lvI l lk i j))))], mu := fun _ i => n - i }
def TI1 : List (Nat × Sig) := (64, sMo1) :: (42, sMost) :: (43, sBeg) :: (38, sYard) :: TI0
theorem TI1_ok : SigsOk Try.prog E0 TI1 := (((TI0_ok.cons (runs 38 (by kernel_rfl)) q38).cons (runs 43 (by kernel_rfl)) q43).cons (runs 42 (by kernel_rfl)) q42).cons (runs 64 (by kernel_rfl)) q64
theorem lv_at {l lk : Nat → Int} {g : Nat} : lvI l lk g (0 + g * 1 + 0 + 0) = l g := by
 have e : 0 + g * 1 + 0 + 0 = g := by omega
 rw [e]; unfold lvI; rw [if_neg (Nat.lt_irrefl g)]
theorem lv_step {l lk : Nat → Int} {g j : Nat} : (if j = 0 + g * 1 + 0 then imax 0 (l g - lk g) else lvI l lk g j) = lvI l lk (g + 1) j := by
 unfold lvI
 by_cases e : j = g
 · subst e; rw [if_pos (by omega), if_pos (by omega)]
 · rw [if_neg (by omega)]
   by_cases c : j < g
   · rw [if_pos c, if_pos (by omega)]
   · rw [if_neg c, if_neg (by omega)]
theorem dry_yes {y : Nat → Nat → Int} {l lk : Nat → Int} {g : Nat} (c : imax 0 (l g - lk g) < y g 2) (d : dryI y l lk g < 0) : (g : Int) = dryI y l lk (g + 1) := by
 rw [dryI, if_pos ⟨c, d⟩]
theorem dry_no {y : Nat → Nat → Int} {l lk : Nat → Int} {g : Nat} (c : ¬ (imax 0 (l g - lk g) < y g 2 ∧ dryI y l lk g < 0)) : dryI y l lk g = dryI y l lk (g + 1) := by
 rw [dryI, if_neg c]
theorem q41m (x : sLdM.α) (h : sLdM.pre x) : CallQ Try.prog E0 41 (sLdM.arg x) (sLdM.res x) := by
 obtain ⟨n, y, l, m⟩ := x
 refine bare_say E0_ok TI1 TI1_ok [] EvensOk.nil runs { l := [(41, 3, aLk n y l (fun i => y i 4))] } (fuel := 5) ?_
 refine of_red (q := (∃ (g : Nat), g≤n∧True∧((True∧(0 : Int) = (↑g : Int))∧(True∧(-1 : Int) = dryI y l (fun (i : Nat) => y i (4 : Nat)) g)∧True)∧(True∧(((True∧True∧l 0 = lvI l (fun (i : Nat) => y i (4 : Nat)) g 0)∧True∧l 1 = lvI l (fun (i : Nat) => y i (4 : Nat)) g 1)∧True∧l 2 = lvI l (fun (i : Nat) => y i (4 : Nat)) g 2)∧True∧l 3 = lvI l (fun (i : Nat) => y i (4 : Nat)) g 3)∧True)∧∀ (g : Nat), g≤n→(decide ((↑g : Int) < (↑n : Int)) = true→(0 : Int)≤(↑g : Int)∧(↑g : Int) < (↑(4 : Nat) : Int)∧∃ (x : LkIn), ((True∧m = x.m)∧(True∧(↑g : Int) = x.b)∧(True∧True∧True∧True∧n = x.n∧∀ (i : Nat), i < n→((((True∧y i 0 = x.y i 0)∧y i 1 = x.y i 1)∧y i 2 = x.y i 2)∧y i 3 = x.y i 3)∧y i 4 = x.y i 4)∧True)∧((0 : Int)≤x.b∧x.b < (↑x.n : Int))∧inRange IntKind.i64 (lvI l (fun (i : Nat) => y i (4 : Nat)) g ((0 : Nat) + g * (1 : Nat) + (0 : Nat) + (0 : Nat)) - x.y x.b.toNat (4 : Nat))∧(0 : Int)≤(↑g : Int)∧(↑g : Int) < (↑(4 : Nat) : Int)∧(0 : Int)≤(↑g : Int)∧(↑g : Int) < (↑(4 : Nat) : Int)∧(0 : Int)≤(↑g : Int)∧(↑g : Int) < (↑n : Int)∧(decide ((if (0 : Nat) + g * (1 : Nat) + (0 : Nat) + (0 : Nat) = (0 : Nat) + g * (1 : Nat) + (0 : Nat) then imax (0 : Int) (lvI l (fun (i : Nat) => y i (4 : Nat)) g ((0 : Nat) + g * (1 : Nat) + (0 : Nat) + (0 : Nat)) - x.y x.b.toNat (4 : Nat)) else lvI l (fun (i : Nat) => y i (4 : Nat)) g ((0 : Nat) + g * (1 : Nat) + (0 : Nat) + (0 : Nat))) < y g ((0 : Nat) + (nat_lit 1 + (1 : Nat)))) = true→(decide (dryI y l (fun (i : Nat) => y i (4 : Nat)) g < (0 : Int)) = true→inRange IntKind.i64 ((↑g : Int) + (1 : Int))∧∃ (g' : Nat), g'≤n∧n - g' < n - g∧True∧((True∧(↑g : Int) + (1 : Int) = (↑g' : Int))∧(True∧(↑g : Int) = dryI y l (fun (i : Nat) => y i (4 : Nat)) g')∧True)∧(True∧(((True∧True∧(if nat_lit 0 = (0 : Nat) + g * (1 : Nat) + (0 : Nat) then imax (0 : Int) (lvI l (fun (i : Nat) => y i (4 : Nat)) g ((0 : Nat) + g * (1 : Nat) + (0 : Nat) + (0 : Nat)) - x.y x.b.toNat (4 : Nat)) else lvI l (fun (i : Nat) => y i (4 : Nat)) g 0) = lvI l (fun (i : Nat) => y i (4 : Nat)) g' 0)∧True∧(if nat_lit 1 = (0 : Nat) + g * (1 : Nat) + (0 : Nat) then imax (0 : Int) (lvI l (fun (i : Nat) => y i (4 : Nat)) g ((0 : Nat) + g * (1 : Nat) + (0 : Nat) + (0 : Nat)) - x.y x.b.toNat (4 : Nat)) else lvI l (fun (i : Nat) => y i (4 : Nat)) g 1) = lvI l (fun (i : Nat) => y i (4 : Nat)) g' 1)∧True∧(if nat_lit 2 = (0 : Nat) + g * (1 : Nat) + (0 : Nat) then imax (0 : Int) (lvI l (fun (i : Nat) => y i (4 : Nat)) g ((0 : Nat) + g * (1 : Nat) + (0 : Nat) + (0 : Nat)) - x.y x.b.toNat (4 : Nat)) else lvI l (fun (i : Nat) => y i (4 : Nat)) g 2) = lvI l (fun (i : Nat) => y i (4 : Nat)) g' 2)∧True∧(if nat_lit 3 = (0 : Nat) + g * (1 : Nat) + (0 : Nat) then imax (0 : Int) (lvI l (fun (i : Nat) => y i (4 : Nat)) g ((0 : Nat) + g * (1 : Nat) + (0 : Nat) + (0 : Nat)) - x.y x.b.toNat (4 : Nat)) else lvI l (fun (i : Nat) => y i (4 : Nat)) g 3) = lvI l (fun (i : Nat) => y i (4 : Nat)) g' 3)∧True)∧(decide (dryI y l (fun (i : Nat) => y i (4 : Nat)) g < (0 : Int)) = false→inRange IntKind.i64 ((↑g : Int) + (1 : Int))∧∃ (g' : Nat), g'≤n∧n - g' < n - g∧True∧((True∧(↑g : Int) + (1 : Int) = (↑g' : Int))∧(True∧dryI y l (fun (i : Nat) => y i (4 : Nat)) g = dryI y l (fun (i : Nat) => y i (4 : Nat)) g')∧True)∧(True∧(((True∧True∧(if nat_lit 0 = (0 : Nat) + g * (1 : Nat) + (0 : Nat) then imax (0 : Int) (lvI l (fun (i : Nat) => y i (4 : Nat)) g ((0 : Nat) + g * (1 : Nat) + (0 : Nat) + (0 : Nat)) - x.y x.b.toNat (4 : Nat)) else lvI l (fun (i : Nat) => y i (4 : Nat)) g 0) = lvI l (fun (i : Nat) => y i (4 : Nat)) g' 0)∧True∧(if nat_lit 1 = (0 : Nat) + g * (1 : Nat) + (0 : Nat) then imax (0 : Int) (lvI l (fun (i : Nat) => y i (4 : Nat)) g ((0 : Nat) + g * (1 : Nat) + (0 : Nat) + (0 : Nat)) - x.y x.b.toNat (4 : Nat)) else lvI l (fun (i : Nat) => y i (4 : Nat)) g 1) = lvI l (fun (i : Nat) => y i (4 : Nat)) g' 1)∧True∧(if nat_lit 2 = (0 : Nat) + g * (1 : Nat) + (0 : Nat) then imax (0 : Int) (lvI l (fun (i : Nat) => y i (4 : Nat)) g ((0 : Nat) + g * (1 : Nat) + (0 : Nat) + (0 : Nat)) - x.y x.b.toNat (4 : Nat)) else lvI l (fun (i : Nat) => y i (4 : Nat)) g 2) = lvI l (fun (i : Nat) => y i (4 : Nat)) g' 2)∧True∧(if nat_lit 3 = (0 : Nat) + g * (1 : Nat) + (0 : Nat) then imax (0 : Int) (lvI l (fun (i : Nat) => y i (4 : Nat)) g ((0 : Nat) + g * (1 : Nat) + (0 : Nat) + (0 : Nat)) - x.y x.b.toNat (4 : Nat)) else lvI l (fun (i : Nat) => y i (4 : Nat)) g 3) = lvI l (fun (i : Nat) => y i (4 : Nat)) g' 3)∧True))∧(decide ((if (0 : Nat) + g * (1 : Nat) + (0 : Nat) + (0 : Nat) = (0 : Nat) + g * (1 : Nat) + (0 : Nat) then imax (0 : Int) (lvI l (fun (i : Nat) => y i (4 : Nat)) g ((0 : Nat) + g * (1 : Nat) + (0 : Nat) + (0 : Nat)) - x.y x.b.toNat (4 : Nat)) else lvI l (fun (i : Nat) => y i (4 : Nat)) g ((0 : Nat) + g * (1 : Nat) + (0 : Nat) + (0 : Nat))) < y g ((0 : Nat) + (nat_lit 1 + (1 : Nat)))) = false→inRange IntKind.i64 ((↑g : Int) + (1 : Int))∧∃ (g' : Nat), g'≤n∧n - g' < n - g∧True∧((True∧(↑g : Int) + (1 : Int) = (↑g' : Int))∧(True∧dryI y l (fun (i : Nat) => y i (4 : Nat)) g = dryI y l (fun (i : Nat) => y i (4 : Nat)) g')∧True)∧(True∧(((True∧True∧(if nat_lit 0 = (0 : Nat) + g * (1 : Nat) + (0 : Nat) then imax (0 : Int) (lvI l (fun (i : Nat) => y i (4 : Nat)) g ((0 : Nat) + g * (1 : Nat) + (0 : Nat) + (0 : Nat)) - x.y x.b.toNat (4 : Nat)) else lvI l (fun (i : Nat) => y i (4 : Nat)) g 0) = lvI l (fun (i : Nat) => y i (4 : Nat)) g' 0)∧True∧(if nat_lit 1 = (0 : Nat) + g * (1 : Nat) + (0 : Nat) then imax (0 : Int) (lvI l (fun (i : Nat) => y i (4 : Nat)) g ((0 : Nat) + g * (1 : Nat) + (0 : Nat) + (0 : Nat)) - x.y x.b.toNat (4 : Nat)) else lvI l (fun (i : Nat) => y i (4 : Nat)) g 1) = lvI l (fun (i : Nat) => y i (4 : Nat)) g' 1)∧True∧(if nat_lit 2 = (0 : Nat) + g * (1 : Nat) + (0 : Nat) then imax (0 : Int) (lvI l (fun (i : Nat) => y i (4 : Nat)) g ((0 : Nat) + g * (1 : Nat) + (0 : Nat) + (0 : Nat)) - x.y x.b.toNat (4 : Nat)) else lvI l (fun (i : Nat) => y i (4 : Nat)) g 2) = lvI l (fun (i : Nat) => y i (4 : Nat)) g' 2)∧True∧(if nat_lit 3 = (0 : Nat) + g * (1 : Nat) + (0 : Nat) then imax (0 : Int) (lvI l (fun (i : Nat) => y i (4 : Nat)) g ((0 : Nat) + g * (1 : Nat) + (0 : Nat) + (0 : Nat)) - x.y x.b.toNat (4 : Nat)) else lvI l (fun (i : Nat) => y i (4 : Nat)) g 3) = lvI l (fun (i : Nat) => y i (4 : Nat)) g' 3)∧True))∧(decide ((↑g : Int) < (↑n : Int)) = false→(True∧(((True∧True∧lvI l (fun (i : Nat) => y i (4 : Nat)) g 0 = lvI l (lkM { n := n, y := y, l := l, m := m }) n 0)∧True∧lvI l (fun (i : Nat) => y i (4 : Nat)) g 1 = lvI l (lkM { n := n, y := y, l := l, m := m }) n 1)∧True∧lvI l (fun (i : Nat) => y i (4 : Nat)) g 2 = lvI l (lkM { n := n, y := y, l := l, m := m }) n 2)∧True∧lvI l (fun (i : Nat) => y i (4 : Nat)) g 3 = lvI l (lkM { n := n, y := y, l := l, m := m }) n 3)∧(True∧dryI y l (fun (i : Nat) => y i (4 : Nat)) g = dryI y l (lkM { n := n, y := y, l := l, m := m }) n)∧True)) (by kernel_rfl) ?_
 simp only [true_and, and_true, inR, Prod.exists, Prod.forall, and_assoc, exists_and_left, exists_eq_left', exists_eq_left, forall_eq, exists_const, forall_const, loopN, loopM, fa2, fas, fas2, dup1, dup2, dup3, dup4, ite_true, exhs, exhn, exhz, exho, exA, ex1, ex2, ex3, ex4, ex5, beqI, bneI, decide_true, Bool.true_and, decide_eq_true_eq, decide_eq_false_iff_not, ne_eq, Decidable.not_not]
 obtain ⟨h4, hl, hk⟩ : LdIn.ok ⟨n, y, l, m⟩ (fun i => y i 4) := h
 have h4 : n ≤ 4 := h4
 refine ⟨⟨0, Nat.zero_le _, rfl, rfl, rfl, rfl, rfl, rfl⟩, fun g hg => ?_, rfl, rfl, rfl, rfl, rfl⟩
 obtain ⟨l1, l2⟩ : 0 ≤ l g ∧ l g ≤ 1000 := hl g hg
 obtain ⟨k1, k2⟩ : 0 ≤ y g 4 ∧ y g 4 ≤ 1000 := hk g hg
 rw [lv_at]
 refine ⟨by omega, by omega, ⟨n, y, m, g⟩, rfl, rfl, rfl, fun _ _ => ⟨rfl, rfl, rfl, rfl, rfl⟩, by show (0 : Int) ≤ (g : Int); omega, by show (g : Int) < (n : Int); omega, by show _ ≤ l g - y g 4; omega, by show l g - y g 4 ≤ _; omega, by omega, by omega, by omega, by omega, by omega, by omega, fun c => ⟨fun d => ?_, fun d => ?_⟩, fun c => ?_⟩
 · exact ⟨by omega, by omega, g + 1, by omega, by omega, by omega, dry_yes (lk := fun i => y i 4) c d, lv_step (lk := fun i => y i 4), lv_step (lk := fun i => y i 4), lv_step (lk := fun i => y i 4), lv_step (lk := fun i => y i 4)⟩
 · exact ⟨by omega, by omega, g + 1, by omega, by omega, by omega, dry_no (lk := fun i => y i 4) (fun q => d q.2), lv_step (lk := fun i => y i 4), lv_step (lk := fun i => y i 4), lv_step (lk := fun i => y i 4), lv_step (lk := fun i => y i 4)⟩
 · exact ⟨by omega, by omega, g + 1, by omega, by omega, by omega, dry_no (lk := fun i => y i 4) (fun q => c q.1), lv_step (lk := fun i => y i 4), lv_step (lk := fun i => y i 4), lv_step (lk := fun i => y i 4), lv_step (lk := fun i => y i 4)⟩
def TI2 : List (Nat × Sig) := (41, sLdM) :: TI1
theorem TI2_ok : SigsOk Try.prog E0 TI2 := TI1_ok.cons (runs 41 (by kernel_rfl)) q41m
def cask0 (_ j : Nat) : Int := ([9, 9, 5, 1, 3] : List Int).getD j 0
def s28 : Sig := ⟨Unit, fun _ => [.c (casksCV 1 cask0), intC 5], fun _ => True, fun _ => [.v (intC 0), .v (intC 1), .v (intC 0)]⟩
def lev0 (g : Int) (j : Nat) : CV := .int .i64 (if j = 0 then 9 - 3 * g else 0)
def aF1 : Ann := { G := Nat, ok := fun _ g => g ≤ 1, dom := fun st => [osN (st.tm 8)], tm := fun _ g => [(22, .t (intC g))], hp := fun st g => [(osN (st.tm 8), .self, some (.box 4 (lev0 g)))], mu := fun _ g => 2 - g }
theorem exYd {n : Nat} {y : Nat → Nat → Int} {R : YdIn → Prop} (h : R ⟨n, y⟩) : ∃ x : YdIn, n = x.n ∧ (∀ i, i < n → y i 0 = x.y i 0 ∧ y i 1 = x.y i 1 ∧ y i 2 = x.y i 2 ∧ y i 3 = x.y i 3 ∧ y i 4 = x.y i 4) ∧ R x := ⟨⟨n, y⟩, rfl, fun _ _ => ⟨rfl, rfl, rfl, rfl, rfl⟩, h⟩
theorem exLd {n : Nat} {y : Nat → Nat → Int} {l : Nat → Int} {m : Int} {R : LdIn → Prop} (h : R ⟨n, y, l, m⟩) : ∃ x : LdIn, n = x.n ∧ (∀ i, i < n → y i 0 = x.y i 0 ∧ y i 1 = x.y i 1 ∧ y i 2 = x.y i 2 ∧ y i 3 = x.y i 3 ∧ y i 4 = x.y i 4) ∧ l 0 = x.l 0 ∧ l 1 = x.l 1 ∧ l 2 = x.l 2 ∧ l 3 = x.l 3 ∧ m = x.m ∧ n = x.n ∧ (∀ i, i < n → y i 0 = x.y i 0 ∧ y i 1 = x.y i 1 ∧ y i 2 = x.y i 2 ∧ y i 3 = x.y i 3 ∧ y i 4 = x.y i 4) ∧ R x := ⟨⟨n, y, l, m⟩, rfl, fun _ _ => ⟨rfl, rfl, rfl, rfl, rfl⟩, rfl, rfl, rfl, rfl, rfl, rfl, fun _ _ => ⟨rfl, rfl, rfl, rfl, rfl⟩, h⟩
theorem yd0 : yardOk 1 cask0 = true := by decide
theorem ld0 {g : Int} (h : 0 ≤ g) (h2 : g ≤ 1) : LdIn.ok ⟨1, cask0, fun j => if j = 0 then 9 - 3 * g else 0, g⟩ (lkM ⟨1, cask0, fun j => if j = 0 then 9 - 3 * g else 0, g⟩) :=
 ⟨show 1 ≤ 4 by decide, fun j hj => by
   have hj : j < 1 := hj
   obtain rfl : j = 0 := by omega
   show 0 ≤ 9 - 3 * g ∧ 9 - 3 * g ≤ 1000
   omega, fun j hj => by show (0 : Int) ≤ 3 ∧ (3 : Int) ≤ 1000; decide⟩
theorem q28s (x : s28.α) : CallQ Try.prog E0 28 (s28.arg x) (s28.res x) := by
 refine bare_say E0_ok TI2 TI2_ok [] EvensOk.nil runs { l := [(28, 8, aF1)], o := [(28, 11, fun st => [(osN (st.tm 8), [9])])] } (fuel := 5) ?_
 refine of_red (q := ∃ (x : YdIn), ((True∧True∧(1 : Nat) = x.n∧∀ (i : Nat), i < (1 : Nat)→((((True∧cask0 i 0 = x.y i 0)∧cask0 i 1 = x.y i 1)∧cask0 i 2 = x.y i 2)∧cask0 i 3 = x.y i 3)∧cask0 i 4 = x.y i 4)∧True)∧x.n < (4611686018427387904 : Nat)∧(((if yardOk x.n x.y = true then (0 : Int) else (61 : Int)) != (0 : Int)) = true→(True∧(0 : Int) = (0 : Int))∧(True∧(0 : Int) = (1 : Int))∧(True∧(if yardOk x.n x.y = true then (0 : Int) else (61 : Int)) = (0 : Int))∧True)∧(((if yardOk x.n x.y = true then (0 : Int) else (61 : Int)) != (0 : Int)) = false→∃ (x : Int × Int × Int), ((True∧(5 : Int) = x.fst)∧(True∧(0 : Int) = x.snd.fst)∧(True∧(12 : Int) = x.snd.snd)∧True)∧True∧((!within x.fst x.snd.fst x.snd.snd) = true→(True∧(0 : Int) = (0 : Int))∧(True∧(0 : Int) = (1 : Int))∧(True∧(62 : Int) = (0 : Int))∧True)∧((!within x.fst x.snd.fst x.snd.snd) = false→∃ (x : YdIn), ((True∧True∧(1 : Nat) = x.n∧∀ (i : Nat), i < (1 : Nat)→((((True∧cask0 i 0 = x.y i 0)∧cask0 i 1 = x.y i 1)∧cask0 i 2 = x.y i 2)∧cask0 i 3 = x.y i 3)∧cask0 i 4 = x.y i 4)∧True)∧x.n≤(4 : Nat)∧(∃ (g : Nat), g≤(1 : Nat)∧True∧((True∧(0 : Int) = (↑g : Int))∧True)∧(True∧(((True∧True∧begF x.n x.y 0 = (9 : Int) - (3 : Int) * (↑g : Int))∧True∧begF x.n x.y 1 = (0 : Int))∧True∧begF x.n x.y 2 = (0 : Int))∧True∧begF x.n x.y 3 = (0 : Int))∧True)∧∀ (g : Nat), g≤(1 : Nat)→(decide ((↑g : Int) < (5 : Int)) = true→∃ (x : YdIn), ((True∧True∧(1 : Nat) = x.n∧∀ (i : Nat), i < (1 : Nat)→((((True∧cask0 i 0 = x.y i 0)∧cask0 i 1 = x.y i 1)∧cask0 i 2 = x.y i 2)∧cask0 i 3 = x.y i 3)∧cask0 i 4 = x.y i 4)∧True)∧x.n < (4611686018427387904 : Nat)∧∃ (x_1 : LdIn), ((True∧True∧(1 : Nat) = x_1.n∧∀ (i : Nat), i < (1 : Nat)→((((True∧cask0 i 0 = x_1.y i 0)∧cask0 i 1 = x_1.y i 1)∧cask0 i 2 = x_1.y i 2)∧cask0 i 3 = x_1.y i 3)∧cask0 i 4 = x_1.y i 4)∧(True∧(((True∧True∧(9 : Int) - (3 : Int) * (↑g : Int) = x_1.l 0)∧True∧(0 : Int) = x_1.l 1)∧True∧(0 : Int) = x_1.l 2)∧True∧(0 : Int) = x_1.l 3)∧(True∧(↑g : Int) = x_1.m)∧(True∧True∧True∧True∧True∧True∧True∧True∧True∧x.n = x_1.n∧∀ (i : Nat), i < x.n→((((True∧x.y i 0 = x_1.y i 0)∧x.y i 1 = x_1.y i 1)∧x.y i 2 = x_1.y i 2)∧x.y i 3 = x_1.y i 3)∧x.y i 4 = x_1.y i 4)∧True)∧x_1.ok (lkM x_1)∧(decide ((0 : Int)≤dryI x_1.y x_1.l (lkM x_1) x_1.n) = true→(True∧dryI x_1.y x_1.l (lkM x_1) x_1.n = (0 : Int))∧(True∧(↑g : Int) = (1 : Int))∧(True∧(0 : Int) = (0 : Int))∧True)∧(decide ((0 : Int)≤dryI x_1.y x_1.l (lkM x_1) x_1.n) = false→inRange IntKind.i64 ((↑g : Int) + (1 : Int))∧∃ (g' : Nat), g'≤(1 : Nat)∧(2 : Nat) - g' < (2 : Nat) - g∧True∧((True∧(↑g : Int) + (1 : Int) = (↑g' : Int))∧True)∧(True∧(((True∧True∧lvI x_1.l (lkM x_1) x_1.n 0 = (9 : Int) - (3 : Int) * (↑g' : Int))∧True∧lvI x_1.l (lkM x_1) x_1.n 1 = (0 : Int))∧True∧lvI x_1.l (lkM x_1) x_1.n 2 = (0 : Int))∧True∧lvI x_1.l (lkM x_1) x_1.n 3 = (0 : Int))∧True))∧(decide ((↑g : Int) < (5 : Int)) = false→(True∧(0 : Int) = (0 : Int))∧(True∧(0 : Int) = (1 : Int))∧(True∧(4 : Int) = (0 : Int))∧True)))) (by kernel_rfl) ?_
 simp only [true_and, and_true, inR, Prod.exists, Prod.forall, and_assoc, exists_and_left, exists_eq_left', exists_eq_left, forall_eq, exists_const, forall_const, loopN, loopM, fa2, fas, fas2, dup1, dup2, dup3, dup4, ite_true, exhs, exhn, exhz, exho, exA, ex1, ex2, ex3, ex4, ex5, beqI, bneI, decide_true, Bool.true_and, decide_eq_true_eq, decide_eq_false_iff_not, ne_eq, Decidable.not_not]
 refine exYd ⟨by decide, fun h => absurd (by rw [if_pos yd0]) h, fun _ => ⟨fun h => absurd h (by decide), fun _ => exYd ⟨by decide, ⟨0, by decide, rfl, rfl, rfl, rfl, rfl⟩, fun g hg => ⟨fun _ => exYd ⟨by decide, exLd (l := fun j => if j = 0 then 9 - 3 * (g : Int) else 0) ⟨ld0 (by omega) (by omega), ?_⟩⟩, fun h => by omega⟩⟩⟩⟩
 match g, hg with
 | 0, _ => exact ⟨fun h => absurd h (by decide), fun _ => ⟨by decide, by decide, 1, by decide, by decide, by decide, by decide, by decide, by decide, by decide⟩⟩
 | 1, _ => exact ⟨fun _ => ⟨by decide, by decide⟩, fun h => absurd (by decide) h⟩
def TIa : List (Nat × Sig) := (28, s28) :: TI2
theorem TIa_ok : SigsOk Try.prog E0 TIa := TI2_ok.cons (runs 28 (by kernel_rfl)) fun x _ => q28s x
end Go.Proofs.Ytpigkgoooekcgaa
namespace Go.Proofs.Ytpigkgoooekcgaa
open Go Go.Sx Bm
set_option maxRecDepth 100000
set_option maxHeartbeats 4000000
theorem SigsOk.app {P : Program} {E : Env} {l m : List (Nat × Sig)} (h : SigsOk P E l) (h2 : SigsOk P E m) : SigsOk P E (l ++ m) :=
 ⟨fun f s hm => (List.mem_append.1 hm).elim (h.all f s) (h2.all f s)⟩
def sTo : Sig := ⟨Int × Int, fun x => [intC x.1, intC x.2], fun _ => True, fun x => [.v (spanTV x.1 x.2)]⟩
theorem q12 (x : sTo.α) : CallQ Try.prog E0 12 (sTo.arg x) (sTo.res x) := by
 refine bare_say E0_ok [] SigsOk.nil [] EvensOk.nil runs {} (fuel := 5) ?_
 refine of_red (q := True∧(True∧True∧x.fst = x.fst)∧True∧x.snd = x.snd) (by kernel_rfl) ?_
 simp only [true_and, and_true, inR, Prod.exists, Prod.forall, and_assoc, exists_and_left, exists_eq_left', exists_eq_left, forall_eq, exists_const, forall_const, loopN, loopM, fa2, fas, fas2, dup1, dup2, dup3, dup4, ite_true, exhs, exhn, exhz, exho, exA, ex1, ex2, ex3, ex4, ex5, beqI, bneI, decide_true, Bool.true_and, decide_eq_true_eq, decide_eq_false_iff_not, ne_eq, Decidable.not_not]
 first | trivial | exact ⟨rfl, rfl⟩ | (simp; done) | skip
structure TwoL where
 n : Nat
 f : Nat → Int
 m : Nat
 g : Nat → Int
def sameB (n : Nat) (f : Nat → Int) (m : Nat) (g : Nat → Int) : Bool := decide (n = m) && allB n (fun i => decide (f i = g i))
def sSame : Sig := ⟨TwoL, fun x => [.c (intsCV x.n x.f), .c (intsCV x.m x.g)], fun x => x.n < 4611686018427387904 ∧ x.m < 4611686018427387904, fun x => [.v (.c (.bool (sameB x.n x.f x.m x.g)))]⟩
def aSame (n : Nat) (f g : Nat → Int) : Ann := { G := Nat, ok := fun _ i => i ≤ n ∧ allB i (fun i => decide (f i = g i)) = true, dom := fun _ => [], tm := fun _ i => [(5, .t (intC i))], hp := fun _ _ => [], mu := fun _ i => n - i }
theorem q23 (x : sSame.α) (h : sSame.pre x) : CallQ Try.prog E0 23 (sSame.arg x) (sSame.res x) := by
 obtain ⟨n, f, m, g⟩ := x
 refine bare_say E0_ok [] SigsOk.nil [] EvensOk.nil runs { l := [(23, 4, aSame n f g)] } (fuel := 5) ?_
 refine of_red (q := (((↑n : Int) != (↑m : Int)) = true→True∧sameB n f m g = false)∧(((↑n : Int) != (↑m : Int)) = false→(∃ (g_1 : Nat), (g_1≤n∧(allB g_1 fun (i : Nat) => decide (f i = g i)) = true)∧True∧((True∧(0 : Int) = (↑g_1 : Int))∧True)∧True)∧∀ (g_1 : Nat), g_1≤n∧(allB g_1 fun (i : Nat) => decide (f i = g i)) = true→(decide ((↑g_1 : Int) < (↑n : Int)) = true→(0 : Int)≤(↑g_1 : Int)∧(↑g_1 : Int) < (↑n : Int)∧(0 : Int)≤(↑g_1 : Int)∧(↑g_1 : Int) < (↑m : Int)∧((f g_1 != g g_1) = true→True∧sameB n f m g = false)∧((f g_1 != g g_1) = false→inRange IntKind.i64 ((↑g_1 : Int) + (1 : Int))∧∃ (g' : Nat), (g'≤n∧(allB g' fun (i : Nat) => decide (f i = g i)) = true)∧n - g' < n - g_1∧True∧((True∧(↑g_1 : Int) + (1 : Int) = (↑g' : Int))∧True)∧True))∧(decide ((↑g_1 : Int) < (↑n : Int)) = false→True∧sameB n f m g = true))) (by kernel_rfl) ?_
 simp only [true_and, and_true, inR, Prod.exists, Prod.forall, and_assoc, exists_and_left, exists_eq_left', exists_eq_left, forall_eq, exists_const, forall_const, loopN, loopM, fa2, fas, fas2, dup1, dup2, dup3, dup4, ite_true, exhs, exhn, exhz, exho, exA, ex1, ex2, ex3, ex4, ex5, beqI, bneI, decide_true, Bool.true_and, decide_eq_true_eq, decide_eq_false_iff_not, ne_eq, Decidable.not_not]
 obtain ⟨h1, h2⟩ : n < 4611686018427387904 ∧ m < 4611686018427387904 := h
 refine ⟨fun e => by unfold sameB; rw [decide_eq_false (by omega)]; rfl, fun e => ?_⟩
 have e : n = m := by omega
 have e0 : decide (n = m) = true := decide_eq_true e
 refine ⟨Nat.zero_le _, rfl, fun i hi ha => ⟨by omega, by omega, by omega, by omega, fun c => ?_, fun c => ⟨by omega, by omega, by omega, ?_, by omega⟩⟩, fun ha => ?_⟩
 · unfold sameB
   rw [allB_no hi (decide_eq_false c), Bool.and_false]
 · show (allB i (fun i => decide (f i = g i)) && decide (f i = g i)) = true
   rw [ha, decide_eq_true c]; rfl
 · unfold sameB
   rw [e0, ha]; rfl
def sMod : Sig := ⟨Int × Int, fun x => [intC x.1, intC x.2], fun x => 0 < x.2 ∧ x.2 ≤ 4611686018427387904, fun x => [.v (intC (x.1 % x.2))]⟩
theorem q9 (x : sMod.α) (h : sMod.pre x) : CallQ Try.prog E0 9 (sMod.arg x) (sMod.res x) := by
 obtain ⟨a, b⟩ := x
 refine bare_say E0_ok [] SigsOk.nil [] EvensOk.nil runs {} (fuel := 5) ?_
 refine of_red (q := b ≠ (0 : Int)∧(decide (a.tmod b < (0 : Int)) = true→inRange IntKind.i64 (a.tmod b + b)∧True∧a.tmod b + b = a % b)∧(decide (a.tmod b < (0 : Int)) = false→True∧a.tmod b = a % b)) (by kernel_rfl) ?_
 simp only [true_and, and_true, inR, Prod.exists, Prod.forall, and_assoc, exists_and_left, exists_eq_left', exists_eq_left, forall_eq, exists_const, forall_const, loopN, loopM, fa2, fas, fas2, dup1, dup2, dup3, dup4, ite_true, exhs, exhn, exhz, exho, exA, ex1, ex2, ex3, ex4, ex5, beqI, bneI, decide_true, Bool.true_and, decide_eq_true_eq, decide_eq_false_iff_not, ne_eq, Decidable.not_not]
 obtain ⟨h1, h2⟩ : 0 < b ∧ b ≤ 4611686018427387904 := h
 have e0 := Int.tmod_eq_emod (a := a) (b := b)
 have b1 := Int.emod_nonneg a (show b ≠ 0 by omega)
 have b2 := Int.emod_lt_of_pos a (show 0 < b by omega)
 have n1 : ((b.natAbs : Nat) : Int) = b := by omega
 rw [e0]
 split <;> (try rw [n1]) <;> exact ⟨by omega, fun h => ⟨by omega, by omega, by omega⟩, fun h => by omega⟩
def TJ0 : List (Nat × Sig) := (9, sMod) :: (23, sSame) :: (12, sTo) :: (TIa ++ ((14, sKeeps) :: (13, sGrade) :: TG1))
theorem TJ0_ok : SigsOk Try.prog E0 TJ0 := (((SigsOk.app TIa_ok ((TG1_ok.cons (runs 13 (by kernel_rfl)) q13).cons (runs 14 (by kernel_rfl)) fun x _ => q14 x)).cons (runs 12 (by kernel_rfl)) fun x _ => q12 x).cons (runs 23 (by kernel_rfl)) q23).cons (runs 9 (by kernel_rfl)) q9
def sYes : Sig := ⟨Unit, fun _ => [], fun _ => True, fun _ => [.v (.c (.bool true))]⟩
def chS (i j : Nat) : Int := (([[1, 3], [2, 5], [4, 6]] : List (List Int)).getD i []).getD j 0
theorem q7 (x : sYes.α) : CallQ Try.prog E0 7 (sYes.arg x) (sYes.res x) := by
 refine bare_say E0_ok TJ0 TJ0_ok [] EvensOk.nil runs {} (fuel := 5) ?_
 refine of_red (q := ∃ (x : Int × Int), ((True∧(1 : Int) = x.fst)∧(True∧(3 : Int) = x.snd)∧True)∧True∧∃ (x_1 : Unit), ((True∧True∧(1 : Nat) = (1 : Nat)∧∀ (i : Nat), i < (1 : Nat)→((((True∧(if i = (0 : Nat) then (9 : Int) else (0 : Int)) = cask0 i 0)∧(if i = (0 : Nat) then (9 : Int) else (0 : Int)) = cask0 i 1)∧(if i = (0 : Nat) then (5 : Int) else (0 : Int)) = cask0 i 2)∧(if i = (0 : Nat) then x.fst else (0 : Int)) = cask0 i 3)∧(if i = (0 : Nat) then x.snd else (0 : Int)) = cask0 i 4)∧(True∧(5 : Int) = (5 : Int))∧True)∧True∧∃ (x : Int × Int), ((True∧(1 : Int) = x.fst)∧(True∧(3 : Int) = x.snd)∧True)∧True∧∃ (x_2 : Int × Int), ((True∧(2 : Int) = x_2.fst)∧(True∧(5 : Int) = x_2.snd)∧True)∧True∧∃ (x_3 : Int × Int), ((True∧(4 : Int) = x_3.fst)∧(True∧(6 : Int) = x_3.snd)∧True)∧True∧∃ (x_4 : SpsIn), ((True∧True∧(3 : Nat) = x_4.n∧∀ (i : Nat), i < (3 : Nat)→(True∧(if i = (2 : Nat) then x_3.fst else if i = (1 : Nat) then x_2.fst else if i = (0 : Nat) then x.fst else (0 : Int)) = x_4.s i 0)∧(if i = (2 : Nat) then x_3.snd else if i = (1 : Nat) then x_2.snd else if i = (0 : Nat) then x.snd else (0 : Int)) = x_4.s i 1)∧True)∧x_4.n < (4611686018427387904 : Nat)∧∃ (x : Int × Int × Int × Int), ((True∧(4 : Int) = x.fst)∧(True∧(2 : Int) = x.snd.fst)∧(True∧(True∧True∧(2 : Int) = x.snd.snd.fst)∧True∧(0 : Int) = x.snd.snd.snd)∧True)∧True∧(((0 : Int) == (0 : Int)) = true→(((if loadsOk x_4.n x_4.s = true then (0 : Int) else (43 : Int)) == (0 : Int)) = true→((oddsE x.fst x.snd.fst x.snd.snd.fst x.snd.snd.snd == (0 : Int)) = true→(((0 : Int) == (0 : Int)) = true→(((1 : Int) == (1 : Int)) = true→∃ (x_5 : TwoL), ((True∧True∧lotsN x_4.n x_4.s = x_5.n∧∀ (i : Nat), i < lotsN x_4.n x_4.s→True∧(lotsL x_4.s x_4.n).getD i (0 : Int) = x_5.f i)∧(True∧True∧(2 : Nat) = x_5.m∧∀ (i : Nat), i < (2 : Nat)→True∧(if i = (1 : Nat) then (2 : Int) else if i = (0 : Nat) then (0 : Int) else (0 : Int)) = x_5.g i)∧True)∧(x_5.n < (4611686018427387904 : Nat)∧x_5.m < (4611686018427387904 : Nat))∧(sameB x_5.n x_5.f x_5.m x_5.g = true→True∧(oddsOf x.fst x.snd.fst x.snd.snd.fst x.snd.snd.snd == (1 : Int) && (oddsIn x.fst x.snd.fst x.snd.snd.fst x.snd.snd.snd == (6 : Int) && true)) = true)∧(sameB x_5.n x_5.f x_5.m x_5.g = false→True∧true = false))∧(((1 : Int) == (1 : Int)) = false→True∧true = false))∧(((0 : Int) == (0 : Int)) = false→True∧true = false))∧((oddsE x.fst x.snd.fst x.snd.snd.fst x.snd.snd.snd == (0 : Int)) = false→True∧true = false))∧(((if loadsOk x_4.n x_4.s = true then (0 : Int) else (43 : Int)) == (0 : Int)) = false→True∧true = false))∧(((0 : Int) == (0 : Int)) = false→True∧true = false)) (by kernel_rfl) ?_
 simp only [true_and, and_true, inR, Prod.exists, Prod.forall, and_assoc, exists_and_left, exists_eq_left', exists_eq_left, forall_eq, exists_const, forall_const, loopN, loopM, fa2, fas, fas2, dup1, dup2, dup3, dup4, ite_true, exhs, exhn, exhz, exho, exA, ex1, ex2, ex3, ex4, ex5, beqI, bneI, decide_true, Bool.true_and, decide_eq_true_eq, decide_eq_false_iff_not, ne_eq, Decidable.not_not]
 refine ⟨fun i hi => ?_, ⟨3, chS⟩, rfl, fun i hi => ?_, by decide, fun _ => ⟨fun _ => ⟨⟨⟨_, _, 2, fun i => if i = 1 then 2 else if i = 0 then 0 else 0⟩, rfl, fun _ _ => rfl, rfl, fun _ _ => rfl, by decide, by decide, fun _ => by decide +kernel, fun h => absurd h (by decide +kernel)⟩, ⟨fun h => Bool.noConfusion h, fun h => Bool.noConfusion h⟩⟩, fun h => absurd (by decide +kernel) h⟩, ⟨fun h => absurd (by decide) h, fun h => Bool.noConfusion h⟩⟩
 · obtain rfl : i = 0 := by omega
   exact ⟨rfl, rfl, rfl, rfl, rfl⟩
 · match i, hi with
   | 0, _ => exact ⟨rfl, rfl⟩
   | 1, _ => exact ⟨rfl, rfl⟩
   | 2, _ => exact ⟨rfl, rfl⟩
end Go.Proofs.Ytpigkgoooekcgaa
namespace Bm
open Go Go.Sx
def grMk (g : Int) (_ j : Nat) : Int := if j = 0 then g else if j = 1 then g else 0
def grBar (g : Int) (_ j : Nat) : Int := if j = 0 then g else 0
theorem tg_marks {g : Int} (h0 : 0 ≤ g) (h1 : g ≤ 1000) : marksOk 1 (grMk g) = true := by
 unfold marksOk
 rw [Bool.and_eq_true, allB_iff]
 refine ⟨by decide, fun i hi => ?_⟩
 unfold markOk
 rw [allB_iff]
 intro q hq
 unfold spanOk grMk
 match q, hq with
 | 0, _ => simp [h0, h1]
 | 1, _ => simp
 | 2, _ => simp
 | 3, _ => simp
theorem tg_bar {g : Int} (h0 : 0 ≤ g) (h1 : g ≤ 1000) (k : Nat) : barOk (grBar g k) = true := by
 unfold barOk
 rw [allB_iff]
 intro q hq
 rw [within_iff]
 unfold grBar
 split <;> omega
theorem tg_reach {g : Int} (i k : Nat) : reach (grMk g i) (grBar g k) = true := by
 unfold reach
 rw [allB_iff]
 intro q hq
 rw [within_iff]
 unfold grMk grBar
 match q, hq with
 | 0, _ => simp
 | 1, _ => simp
 | 2, _ => simp
 | 3, _ => simp
theorem tg_cnt {g : Int} : ∀ k, cnt (grMk g 0) (grBar g) k = 0
 | 0 => rfl
 | k + 1 => by rw [cnt, tg_cnt k, if_pos (tg_reach 0 k)]
theorem alw_ge {N o : Nat} {r : Nat → Int} : ∀ {k j : Nat}, j < k → keeps N o j r = true → (j : Int) ≤ alw N o r k
 | k + 1, j, hj, hk => by
   unfold alw
   by_cases c : keeps N o k r = true
   · rw [if_pos c]; omega
   · rw [if_neg c]
     by_cases e : j = k
     · subst e; exact absurd hk c
     · exact alw_ge (by omega) hk
theorem tg_grade {g : Int} (h0 : 0 ≤ g) (h1 : g ≤ 1000) : gradeN 1 (grMk g) (grBar g 0) = 0 ∧ gradeE 1 (grMk g) (grBar g 0) = 0 := by
 have h := grade_0 (n := 1) (m := grMk g) (b := grBar g 0) (tg_marks h0 h1) (tg_bar h0 h1 0) (i := 0) (by decide) (fun k hk => absurd hk (Nat.not_lt_zero k)) (tg_reach 0 0)
 exact ⟨h.1.symm, h.2.symm⟩
theorem tg_pro {g : Int} (h0 : 0 ≤ g) (h1 : g ≤ 1000) {N : Nat} (n1 : 1 ≤ N) (n2 : N ≤ 40) {r : Nat → Int} (hr : ruleOk N r = true) : prW ⟨1, grMk g, N, r, N, grBar g⟩ = 0 ∧ prE ⟨1, grMk g, N, r, N, grBar g⟩ = 0 := by
 obtain ⟨b0, b1, b2, _, _⟩ := rule_bd hr
 have hk := alw_ge (k := N + 1) (j := (r 0).toNat) (by omega) (keeps_top hr)
 have h := pr_0 (x := ⟨1, grMk g, N, r, N, grBar g⟩) (tg_marks h0 h1) (within_iff.2 ⟨by show (1 : Int) ≤ N; omega, by show (N : Int) ≤ 40; omega⟩) hr (by
   unfold prOk
   rw [Bool.and_eq_true, allB_iff]
   exact ⟨decide_eq_true (Int.le_refl _), fun k _ => tg_bar h0 h1 k⟩) (i := 0) (show 0 < 1 by decide) (fun k hk => absurd hk (Nat.not_lt_zero k)) (by
   show ((cnt (grMk g 0) (grBar g) N : Nat) : Int) ≤ alw ((N : Int)).toNat N r (N + 1)
   rw [tg_cnt]
   have e : ((N : Int)).toNat = N := by omega
   rw [e]; omega)
 exact ⟨h.1.symm, h.2.2.symm⟩
def anyK (N : Int) (r : Nat → Int) : Nat → Bool
 | 0 => false
 | k + 1 => anyK N r k || keepsB N r N k
theorem anyK_of {N : Int} {r : Nat → Int} {q : Nat} (h : keepsB N r N q = true) : ∀ {k : Nat}, q < k → anyK N r k = true
 | k + 1, hq => by
   unfold anyK
   by_cases e : q = k
   · subst e; rw [h, Bool.or_true]
   · rw [anyK_of h (by omega), Bool.true_or]
theorem tg_any {N : Nat} (n1 : 1 ≤ N) (n2 : N ≤ 40) {r : Nat → Int} (hr : ruleOk N r = true) : anyK N r (N + 1) = true := by
 obtain ⟨b0, b1, b2, _, _⟩ := rule_bd hr
 have h := kE_0 (N := N) (o := N) (a := (r 0).toNat) (r := r) (ruled_0 (within_iff.2 ⟨by omega, by omega⟩) hr) (by
   unfold planOk
   rw [Bool.and_eq_true, within_iff, within_iff]
   omega)
 exact anyK_of (q := (r 0).toNat) (by rw [h.2]; exact keeps_top hr) (by omega)
def grD (s : Nat → Nat → Int) (a : Nat) : Nat → Int
 | 0 => 0
 | d + 1 => imax (grD s a d) (s (a + d) 0)
theorem grD_nn {s : Nat → Nat → Int} {a : Nat} : ∀ {d : Nat}, 0 ≤ grD s a d
 | 0 => Int.le_refl _
 | d + 1 => by
   have := grD_nn (s := s) (a := a) (d := d)
   have := imax_ge (a := grD s a d) (b := s (a + d) 0)
   show 0 ≤ imax (grD s a d) (s (a + d) 0)
   omega
theorem grD_ge {s : Nat → Nat → Int} {a : Nat} : ∀ {d i : Nat}, i < d → s (a + i) 0 ≤ grD s a d
 | d + 1, i, hi => by
   have := imax_ge (a := grD s a d) (b := s (a + d) 0)
   show s (a + i) 0 ≤ imax (grD s a d) (s (a + d) 0)
   by_cases e : i = d
   · subst e; omega
   · have := grD_ge (s := s) (a := a) (d := d) (i := i) (by omega); omega
theorem grD_le {s : Nat → Nat → Int} {a : Nat} {X : Int} (h0 : 0 ≤ X) : ∀ {d : Nat}, (∀ i, i < d → s (a + i) 0 ≤ X) → grD s a d ≤ X
 | 0, _ => h0
 | d + 1, h => by
   have a1 := grD_le h0 (d := d) fun i hi => h i (by omega)
   have a2 := h d (by omega)
   rcases imax_cases (a := grD s a d) (b := s (a + d) 0) with e | e
   · show imax (grD s a d) (s (a + d) 0) ≤ X; omega
   · show imax (grD s a d) (s (a + d) 0) ≤ X; omega
theorem tg_holds {s : Nat → Nat → Int} {a u : Nat} (hs : ∀ k, k < u → 0 ≤ s k 0 ∧ s k 0 ≤ s k 1 ∧ s k 1 ≤ 1000) (hal : alikeB (u - a) (cutS s a) = true) {i : Nat} (h1 : a ≤ i) (h2 : i < u) : s i 0 ≤ grD s a (u - a) ∧ grD s a (u - a) ≤ s i 1 := by
 have e : a + (i - a) = i := by omega
 have g1 := grD_ge (s := s) (a := a) (d := u - a) (i := i - a) (by omega)
 rw [e] at g1
 refine ⟨g1, grD_le (by have := hs i h2; omega) fun k hk => ?_⟩
 have hal := of_decide_eq_true hal
 have m1 := mxL_ge (s := cutS s a) (n := u - a) (i := k) hk
 have m2 := mnH_le (s := cutS s a) (n := u - a) (i := i - a) (by omega)
 have m1 : s (k + a) 0 ≤ mxL (cutS s a) (u - a) := m1
 have m2 : mnH (cutS s a) (u - a) ≤ s (i - a + a) 1 := m2
 rw [show i - a + a = i by omega] at m2
 rw [Nat.add_comm a k]
 omega
end Bm
