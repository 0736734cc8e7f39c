/- The law ContractMore as a contract. -/
import Derived.Test.YthofpbnbjkdpaaaDoorCxQ
import Derived.Test.YthofpbnbjkdpaaaDoorCxMath6
set_option linter.unusedSimpArgs false
set_option linter.unusedVariables false
namespace Go.Proofs.YthofpbnbjkdpaaaDoor
open Go Go.Sx Cm
set_option maxRecDepth 100000

def TQ : List (Nat × Sig) := (26, sLoansO) :: (19, sNumO rnd) :: (14, sNumO clear) :: TN
theorem TQ_ok : SigsOk Tryd.prog E0 TQ := ((TN_ok.cons (runs 14 (by kernel_rfl)) q14o).cons (runs 19 (by kernel_rfl)) q19o).cons (runs 26 (by kernel_rfl)) q26o
def aMo1 (b : Book) : Ann := { G := Nat, ok := fun _ i => i ≤ b.nd, dom := fun _ => [], tm := fun _ i => [(21, .t (intC i))], hp := fun _ _ => [], mu := fun _ i => b.nd - i }
def aMo2 (b : Book) : Ann := { G := Nat, ok := fun _ i => i ≤ b.nc, dom := fun _ => [], tm := fun _ i => [(22, .t (intC i))], hp := fun _ _ => [], mu := fun _ i => b.nc - i }
/-- The name of a slice in a box's cell. -/
def cellN (o : Option Blk) (j : Nat) : Nat := match o with
  | some (.box _ get) => match get j with
    | .os n _ _ => n
    | _ => 0
  | _ => 0
/-- Behind the switch: a party's cash, its barrels in a season, and this season's price may be more. -/
def aMo0 (b : Book) (S P : Nat) : Ann := { G := Int × Int × Int, ok := fun _ g => (b.cash P ≤ g.1 ∧ g.1 ≤ 10000) ∧ (b.price S ≤ g.2.1 ∧ g.2.1 ≤ 100) ∧ (b.bar S P ≤ g.2.2 ∧ g.2.2 ≤ 200), dom := fun st => [cellN (st.hp (osN (st.tm 7))) 0, osN (st.tm 8), cellN (st.hp (osN (st.tm 8))) 1], tm := fun _ _ => [], hp := fun st g => [(cellN (st.hp (osN (st.tm 7))) 0, .self, some (.row 3 1 b.nc (fun j _ => .int .i64 (if j = P then g.1 else b.cash j)))), (osN (st.tm 8), .self, some (.box 2 (ofList [.int .i64 g.2.1, .os (cellN (st.hp (osN (st.tm 8))) 1) 1 (b.nb S)]))), (cellN (st.hp (osN (st.tm 8))) 1, .self, some (.row 3 1 (b.nb S) (fun j _ => .int .i64 (if j = P then g.2.2 else b.bar S j))))], mu := fun _ _ => 0 }
def sLaw8 : Sig := ⟨Book × Int × Int × Int × Int, fun x => [bookTV x.1, .a 4 (ofList [.int .i64 x.2.1, .int .i64 x.2.2.1, .int .i64 x.2.2.2.1, .int .i64 x.2.2.2.2])], fun x => x.1.wf, fun _ => [.v (.c (.bool true))]⟩
theorem chosen_in {lo hi : Int} (u : Int) (h : lo ≤ hi) : lo ≤ chosen lo hi u ∧ chosen lo hi u ≤ hi := by
  unfold chosen
  split
  · omega
  · have h1 := Int.emod_nonneg u (b := hi - lo + 1) (by omega)
    have h2 := Int.emod_lt_of_pos u (b := hi - lo + 1) (by omega)
    omega
theorem same_if {f : Nat → Int} {P i : Nat} : f i = if i = P then f P else f i := by
  split
  · rename_i e; rw [e]
  · rfl
theorem same_nb {f : Nat → Nat} {P i : Nat} : (if i = P then f P else f i) = f i := by
  split
  · rename_i e; rw [e]
  · rfl
theorem q8 (x : sLaw8.α) (h : sLaw8.pre x) : CallQ Tryd.prog E0 8 (sLaw8.arg x) (sLaw8.res x) := by
  obtain ⟨b, s, p, n, u⟩ := x
  refine bare_keep E0_ok TQ TQ_ok runs [(8, 25, aMo1 b), (8, 30, aMo2 b)] [(8, 15, aMo0 b (s % (b.ns : Int)).toNat (p % (b.nc : Int)).toNat)] (fuel := 6) ?_
  refine of_red (q := ∃ (x : Book), ((True ∧ ((True ∧ True ∧ True ∧ b.nc = x.nc ∧ ∀ (i : Nat), i < b.nc → True ∧ b.cash i = x.cash i) ∧ True ∧ True ∧ b.nd = x.nd ∧ ∀ (i : Nat), i < b.nd → ((True ∧ b.frm i = x.frm i) ∧ b.to i = x.to i) ∧ b.due i = x.due i) ∧ True ∧ True ∧ b.ns = x.ns ∧ ∀ (i : Nat), i < b.ns → (True ∧ b.price i = x.price i) ∧ True ∧ b.nb i = x.nb i ∧ ∀ (i_1 : Nat), i_1 < b.nb i → True ∧ b.bar i i_1 = x.bar i i_1) ∧ True) ∧ x.wf ∧ ((!Cm.chk x) = true → ∃ (x : Unit), True ∧ True ∧ True ∧ true = true) ∧ ((!Cm.chk x) = false → (0 : Int) ≤ (0 : Int) ∧ (0 : Int) < (↑(4 : Nat) : Int) ∧ ∃ (x : Int × Int), ((True ∧ s = x.fst) ∧ (True ∧ (↑b.ns : Int) = x.snd) ∧ True) ∧ ((0 : Int) < x.snd ∧ x.snd ≤ (9223372036854775807 : Int)) ∧ (0 : Int) ≤ (1 : Int) ∧ (1 : Int) < (↑(4 : Nat) : Int) ∧ ∃ (x_1 : Int × Int), ((True ∧ p = x_1.fst) ∧ (True ∧ (↑b.nc : Int) = x_1.snd) ∧ True) ∧ ((0 : Int) < x_1.snd ∧ x_1.snd ≤ (9223372036854775807 : Int)) ∧ ((0 : Nat) + b.nc) * (8 : Nat) ≤ (140737488355328 : Nat) ∧ (0 : Nat) + b.nc < (4611686018427387904 : Nat) ∧ ((0 : Nat) + b.ns) * (32 : Nat) ≤ (140737488355328 : Nat) ∧ (0 : Nat) + b.ns < (4611686018427387904 : Nat) ∧ (0 : Int) ≤ x.fst % x.snd ∧ x.fst % x.snd < (↑b.ns : Int) ∧ ((0 : Nat) + b.nb (x.fst % x.snd).toNat) * (8 : Nat) ≤ (140737488355328 : Nat) ∧ (0 : Nat) + b.nb (x.fst % x.snd).toNat < (4611686018427387904 : Nat) ∧ ((0 : Int) ≤ (2 : Int) ∧ (2 : Int) < (↑(4 : Nat) : Int) ∧ ∃ (x_2 : Int × Int), ((True ∧ (n, u).fst = x_2.fst) ∧ (True ∧ (3 : Int) = x_2.snd) ∧ True) ∧ ((0 : Int) < x_2.snd ∧ x_2.snd ≤ (9223372036854775807 : Int)) ∧ ((x_2.fst % x_2.snd == (0 : Int)) = true → (0 : Int) ≤ x_1.fst % x_1.snd ∧ x_1.fst % x_1.snd < (↑b.nc : Int) ∧ (0 : Int) ≤ x_1.fst % x_1.snd ∧ x_1.fst % x_1.snd < (↑b.nc : Int) ∧ (0 : Int) ≤ (3 : Int) ∧ (3 : Int) < (↑(4 : Nat) : Int) ∧ ∃ (x_3 : Int × Int × Int), ((True ∧ b.cash (x_1.fst % x_1.snd).toNat = x_3.fst) ∧ (True ∧ imax (b.cash (x_1.fst % x_1.snd).toNat) (10000 : Int) = x_3.snd.fst) ∧ (True ∧ (n, u).snd = x_3.snd.snd) ∧ True) ∧ ((0 : Int) ≤ x_3.fst ∧ x_3.snd.fst ≤ (1000000 : Int)) ∧ (0 : Int) ≤ x_1.fst % x_1.snd ∧ x_1.fst % x_1.snd < (↑((0 : Nat) + b.nc) : Int) ∧ ∃ (g : Int × Int × Int), ((b.cash (p % (↑b.nc : Int)).toNat ≤ g.fst ∧ g.fst ≤ (10000 : Int)) ∧ (b.price (s % (↑b.ns : Int)).toNat ≤ g.snd.fst ∧ g.snd.fst ≤ (100 : Int)) ∧ b.bar (s % (↑b.ns : Int)).toNat (p % (↑b.nc : Int)).toNat ≤ g.snd.snd ∧ g.snd.snd ≤ (200 : Int)) ∧ True ∧ True ∧ (True ∧ True ∧ (0 : Nat) + b.nc = b.nc ∧ ∀ (i : Nat), i < (0 : Nat) + b.nc → True ∧ (if i = (x_1.fst % x_1.snd).toNat then chosen x_3.fst x_3.snd.fst x_3.snd.snd else b.cash (i - (0 : Nat))) = if i = (p % (↑b.nc : Int)).toNat then g.fst else b.cash i) ∧ (True ∧ (True ∧ True ∧ b.price (x.fst % x.snd).toNat = g.snd.fst) ∧ True ∧ True ∧ (0 : Nat) + b.nb (x.fst % x.snd).toNat = b.nb (s % (↑b.ns : Int)).toNat) ∧ (True ∧ True ∧ (0 : Nat) + b.nb (x.fst % x.snd).toNat = b.nb (s % (↑b.ns : Int)).toNat ∧ ∀ (i : Nat), i < (0 : Nat) + b.nb (x.fst % x.snd).toNat → True ∧ b.bar (x.fst % x.snd).toNat (i - (0 : Nat)) = if i = (p % (↑b.nc : Int)).toNat then g.snd.snd else b.bar (s % (↑b.ns : Int)).toNat i) ∧ True) ∧ ((x_2.fst % x_2.snd == (0 : Int)) = false → ((x_2.fst % x_2.snd == (1 : Int)) = true → (0 : Int) ≤ x_1.fst % x_1.snd ∧ x_1.fst % x_1.snd < (↑((0 : Nat) + b.nb (x.fst % x.snd).toNat) : Int) ∧ (0 : Int) ≤ x_1.fst % x_1.snd ∧ x_1.fst % x_1.snd < (↑((0 : Nat) + b.nb (x.fst % x.snd).toNat) : Int) ∧ (0 : Int) ≤ (3 : Int) ∧ (3 : Int) < (↑(4 : Nat) : Int) ∧ ∃ (x_3 : Int × Int × Int), ((True ∧ b.bar (x.fst % x.snd).toNat ((x_1.fst % x_1.snd).toNat - (0 : Nat)) = x_3.fst) ∧ (True ∧ imax (b.bar (x.fst % x.snd).toNat ((x_1.fst % x_1.snd).toNat - (0 : Nat))) (200 : Int) = x_3.snd.fst) ∧ (True ∧ (n, u).snd = x_3.snd.snd) ∧ True) ∧ ((0 : Int) ≤ x_3.fst ∧ x_3.snd.fst ≤ (1000000 : Int)) ∧ (0 : Int) ≤ x_1.fst % x_1.snd ∧ x_1.fst % x_1.snd < (↑((0 : Nat) + b.nb (x.fst % x.snd).toNat) : Int) ∧ ∃ (g : Int × Int × Int), ((b.cash (p % (↑b.nc : Int)).toNat ≤ g.fst ∧ g.fst ≤ (10000 : Int)) ∧ (b.price (s % (↑b.ns : Int)).toNat ≤ g.snd.fst ∧ g.snd.fst ≤ (100 : Int)) ∧ b.bar (s % (↑b.ns : Int)).toNat (p % (↑b.nc : Int)).toNat ≤ g.snd.snd ∧ g.snd.snd ≤ (200 : Int)) ∧ True ∧ True ∧ (True ∧ True ∧ (0 : Nat) + b.nc = b.nc ∧ ∀ (i : Nat), i < (0 : Nat) + b.nc → True ∧ b.cash (i - (0 : Nat)) = if i = (p % (↑b.nc : Int)).toNat then g.fst else b.cash i) ∧ (True ∧ (True ∧ True ∧ b.price (x.fst % x.snd).toNat = g.snd.fst) ∧ True ∧ True ∧ (0 : Nat) + b.nb (x.fst % x.snd).toNat = b.nb (s % (↑b.ns : Int)).toNat) ∧ (True ∧ True ∧ (0 : Nat) + b.nb (x.fst % x.snd).toNat = b.nb (s % (↑b.ns : Int)).toNat ∧ ∀ (i : Nat), i < (0 : Nat) + b.nb (x.fst % x.snd).toNat → True ∧ (if i = (x_1.fst % x_1.snd).toNat then chosen x_3.fst x_3.snd.fst x_3.snd.snd else b.bar (x.fst % x.snd).toNat (i - (0 : Nat))) = if i = (p % (↑b.nc : Int)).toNat then g.snd.snd else b.bar (s % (↑b.ns : Int)).toNat i) ∧ True) ∧ ((x_2.fst % x_2.snd == (1 : Int)) = false → (0 : Int) ≤ (3 : Int) ∧ (3 : Int) < (↑(4 : Nat) : Int) ∧ ∃ (x_3 : Int × Int × Int), ((True ∧ b.price (x.fst % x.snd).toNat = x_3.fst) ∧ (True ∧ imax (b.price (x.fst % x.snd).toNat) (100 : Int) = x_3.snd.fst) ∧ (True ∧ (n, u).snd = x_3.snd.snd) ∧ True) ∧ ((0 : Int) ≤ x_3.fst ∧ x_3.snd.fst ≤ (1000000 : Int)) ∧ ∃ (g : Int × Int × Int), ((b.cash (p % (↑b.nc : Int)).toNat ≤ g.fst ∧ g.fst ≤ (10000 : Int)) ∧ (b.price (s % (↑b.ns : Int)).toNat ≤ g.snd.fst ∧ g.snd.fst ≤ (100 : Int)) ∧ b.bar (s % (↑b.ns : Int)).toNat (p % (↑b.nc : Int)).toNat ≤ g.snd.snd ∧ g.snd.snd ≤ (200 : Int)) ∧ True ∧ True ∧ (True ∧ True ∧ (0 : Nat) + b.nc = b.nc ∧ ∀ (i : Nat), i < (0 : Nat) + b.nc → True ∧ b.cash (i - (0 : Nat)) = if i = (p % (↑b.nc : Int)).toNat then g.fst else b.cash i) ∧ (True ∧ (True ∧ True ∧ chosen x_3.fst x_3.snd.fst x_3.snd.snd = g.snd.fst) ∧ True ∧ True ∧ (0 : Nat) + b.nb (x.fst % x.snd).toNat = b.nb (s % (↑b.ns : Int)).toNat) ∧ (True ∧ True ∧ (0 : Nat) + b.nb (x.fst % x.snd).toNat = b.nb (s % (↑b.ns : Int)).toNat ∧ ∀ (i : Nat), i < (0 : Nat) + b.nb (x.fst % x.snd).toNat → True ∧ b.bar (x.fst % x.snd).toNat (i - (0 : Nat)) = if i = (p % (↑b.nc : Int)).toNat then g.snd.snd else b.bar (s % (↑b.ns : Int)).toNat i) ∧ True))) ∧ ∀ (g : Int × Int × Int), (b.cash (p % (↑b.nc : Int)).toNat ≤ g.fst ∧ g.fst ≤ (10000 : Int)) ∧ (b.price (s % (↑b.ns : Int)).toNat ≤ g.snd.fst ∧ g.snd.fst ≤ (100 : Int)) ∧ b.bar (s % (↑b.ns : Int)).toNat (p % (↑b.nc : Int)).toNat ≤ g.snd.snd ∧ g.snd.snd ≤ (200 : Int) → (0 : Int) ≤ x.fst % x.snd ∧ x.fst % x.snd < (↑((0 : Nat) + b.ns) : Int) ∧ ∃ (x_2 : Book × Int), ((True ∧ ((True ∧ True ∧ True ∧ b.nc = x_2.fst.nc ∧ ∀ (i : Nat), i < b.nc → True ∧ b.cash i = x_2.fst.cash i) ∧ True ∧ True ∧ b.nd = x_2.fst.nd ∧ ∀ (i : Nat), i < b.nd → ((True ∧ b.frm i = x_2.fst.frm i) ∧ b.to i = x_2.fst.to i) ∧ b.due i = x_2.fst.due i) ∧ True ∧ True ∧ b.ns = x_2.fst.ns ∧ ∀ (i : Nat), i < b.ns → (True ∧ b.price i = x_2.fst.price i) ∧ True ∧ b.nb i = x_2.fst.nb i ∧ ∀ (i_1 : Nat), i_1 < b.nb i → True ∧ b.bar i i_1 = x_2.fst.bar i i_1) ∧ (True ∧ x.fst % x.snd = x_2.snd) ∧ True) ∧ x_2.fst.wf ∧ ∃ (x_3 : Book × Int), ((True ∧ ((True ∧ True ∧ True ∧ b.nc = x_3.fst.nc ∧ ∀ (i : Nat), i < b.nc → True ∧ (if i = (p % (↑b.nc : Int)).toNat then g.fst else b.cash i) = x_3.fst.cash i) ∧ True ∧ True ∧ b.nd = x_3.fst.nd ∧ ∀ (i : Nat), i < b.nd → ((True ∧ b.frm i = x_3.fst.frm i) ∧ b.to i = x_3.fst.to i) ∧ b.due i = x_3.fst.due i) ∧ True ∧ True ∧ (0 : Nat) + b.ns = x_3.fst.ns ∧ ∀ (i : Nat), i < (0 : Nat) + b.ns → (True ∧ (if i = (x.fst % x.snd).toNat then g.snd.fst else b.price (i - (0 : Nat))) = x_3.fst.price i) ∧ True ∧ (if i = (x.fst % x.snd).toNat then b.nb (s % (↑b.ns : Int)).toNat else b.nb (i - (0 : Nat))) = x_3.fst.nb i ∧ ∀ (i_1 : Nat), (i_1 < if i = (x.fst % x.snd).toNat then b.nb (s % (↑b.ns : Int)).toNat else b.nb (i - (0 : Nat))) → True ∧ (if i = (x.fst % x.snd).toNat then if i_1 = (p % (↑b.nc : Int)).toNat then g.snd.snd else b.bar (s % (↑b.ns : Int)).toNat i_1 else b.bar (i - (0 : Nat)) i_1) = x_3.fst.bar i i_1) ∧ (True ∧ x.fst % x.snd = x_3.snd) ∧ True) ∧ x_3.fst.wf ∧ (∀ (i : Nat), i < (opn x_3.fst x_3.snd).nd → True) ∧ ∃ (x_4 : Book × Int), ((True ∧ ((True ∧ True ∧ True ∧ b.nc = x_4.fst.nc ∧ ∀ (i : Nat), i < b.nc → True ∧ b.cash i = x_4.fst.cash i) ∧ True ∧ True ∧ b.nd = x_4.fst.nd ∧ ∀ (i : Nat), i < b.nd → ((True ∧ b.frm i = x_4.fst.frm i) ∧ b.to i = x_4.fst.to i) ∧ b.due i = x_4.fst.due i) ∧ True ∧ True ∧ b.ns = x_4.fst.ns ∧ ∀ (i : Nat), i < b.ns → (True ∧ b.price i = x_4.fst.price i) ∧ True ∧ b.nb i = x_4.fst.nb i ∧ ∀ (i_1 : Nat), i_1 < b.nb i → True ∧ b.bar i i_1 = x_4.fst.bar i i_1) ∧ (True ∧ x.fst % x.snd = x_4.snd) ∧ True) ∧ x_4.fst.wf ∧ ∃ (x_5 : Book × Int), ((True ∧ ((True ∧ True ∧ True ∧ b.nc = x_5.fst.nc ∧ ∀ (i : Nat), i < b.nc → True ∧ (if i = (p % (↑b.nc : Int)).toNat then g.fst else b.cash i) = x_5.fst.cash i) ∧ True ∧ True ∧ b.nd = x_5.fst.nd ∧ ∀ (i : Nat), i < b.nd → ((True ∧ b.frm i = x_5.fst.frm i) ∧ b.to i = x_5.fst.to i) ∧ b.due i = x_5.fst.due i) ∧ True ∧ True ∧ (0 : Nat) + b.ns = x_5.fst.ns ∧ ∀ (i : Nat), i < (0 : Nat) + b.ns → (True ∧ (if i = (x.fst % x.snd).toNat then g.snd.fst else b.price (i - (0 : Nat))) = x_5.fst.price i) ∧ True ∧ (if i = (x.fst % x.snd).toNat then b.nb (s % (↑b.ns : Int)).toNat else b.nb (i - (0 : Nat))) = x_5.fst.nb i ∧ ∀ (i_1 : Nat), (i_1 < if i = (x.fst % x.snd).toNat then b.nb (s % (↑b.ns : Int)).toNat else b.nb (i - (0 : Nat))) → True ∧ (if i = (x.fst % x.snd).toNat then if i_1 = (p % (↑b.nc : Int)).toNat then g.snd.snd else b.bar (s % (↑b.ns : Int)).toNat i_1 else b.bar (i - (0 : Nat)) i_1) = x_5.fst.bar i i_1) ∧ (True ∧ x.fst % x.snd = x_5.snd) ∧ True) ∧ x_5.fst.wf ∧ (∀ (i : Nat), i < (opn x_5.fst x_5.snd).nd → True) ∧ ∃ (x_6 : Book), ((True ∧ ((True ∧ True ∧ True ∧ b.nc = x_6.nc ∧ ∀ (i : Nat), i < b.nc → True ∧ b.cash i = x_6.cash i) ∧ True ∧ True ∧ b.nd = x_6.nd ∧ ∀ (i : Nat), i < b.nd → ((True ∧ b.frm i = x_6.frm i) ∧ b.to i = x_6.to i) ∧ b.due i = x_6.due i) ∧ True ∧ True ∧ b.ns = x_6.ns ∧ ∀ (i : Nat), i < b.ns → (True ∧ b.price i = x_6.price i) ∧ True ∧ b.nb i = x_6.nb i ∧ ∀ (i_1 : Nat), i_1 < b.nb i → True ∧ b.bar i i_1 = x_6.bar i i_1) ∧ True) ∧ x_6.wf ∧ ∃ (x_7 : Book), ((True ∧ ((True ∧ True ∧ True ∧ b.nc = x_7.nc ∧ ∀ (i : Nat), i < b.nc → True ∧ (if i = (p % (↑b.nc : Int)).toNat then g.fst else b.cash i) = x_7.cash i) ∧ True ∧ True ∧ b.nd = x_7.nd ∧ ∀ (i : Nat), i < b.nd → ((True ∧ b.frm i = x_7.frm i) ∧ b.to i = x_7.to i) ∧ b.due i = x_7.due i) ∧ True ∧ True ∧ (0 : Nat) + b.ns = x_7.ns ∧ ∀ (i : Nat), i < (0 : Nat) + b.ns → (True ∧ (if i = (x.fst % x.snd).toNat then g.snd.fst else b.price (i - (0 : Nat))) = x_7.price i) ∧ True ∧ (if i = (x.fst % x.snd).toNat then b.nb (s % (↑b.ns : Int)).toNat else b.nb (i - (0 : Nat))) = x_7.nb i ∧ ∀ (i_1 : Nat), (i_1 < if i = (x.fst % x.snd).toNat then b.nb (s % (↑b.ns : Int)).toNat else b.nb (i - (0 : Nat))) → True ∧ (if i = (x.fst % x.snd).toNat then if i_1 = (p % (↑b.nc : Int)).toNat then g.snd.snd else b.bar (s % (↑b.ns : Int)).toNat i_1 else b.bar (i - (0 : Nat)) i_1) = x_7.bar i i_1) ∧ True) ∧ x_7.wf ∧ (∀ (i : Nat), i < (opn x_7 (0 : Int)).nc → True) ∧ ((askE x_2.fst x_2.snd != (0 : Int)) = true → True ∧ true = false) ∧ ((askE x_2.fst x_2.snd != (0 : Int)) = false → ((askE x_3.fst x_3.snd != (0 : Int)) = true → True ∧ true = false) ∧ ((askE x_3.fst x_3.snd != (0 : Int)) = false → ((askE x_4.fst x_4.snd != (0 : Int)) = true → True ∧ true = false) ∧ ((askE x_4.fst x_4.snd != (0 : Int)) = false → ((askE x_5.fst x_5.snd != (0 : Int)) = true → True ∧ true = false) ∧ ((askE x_5.fst x_5.snd != (0 : Int)) = false → ((errOf x_6 != (0 : Int)) = true → True ∧ true = false) ∧ ((errOf x_6 != (0 : Int)) = false → ((errOf x_7 != (0 : Int)) = true → True ∧ true = false) ∧ ((errOf x_7 != (0 : Int)) = false → (((↑(opn x_2.fst x_2.snd).nd : Int) != (↑(opn x_3.fst x_3.snd).nd : Int)) = true → True ∧ true = false) ∧ (((↑(opn x_2.fst x_2.snd).nd : Int) != (↑(opn x_3.fst x_3.snd).nd : Int)) = false → (((↑(opn x_4.fst x_4.snd).nd : Int) != (↑(opn x_2.fst x_2.snd).nd : Int)) = true → True ∧ true = false) ∧ (((↑(opn x_4.fst x_4.snd).nd : Int) != (↑(opn x_2.fst x_2.snd).nd : Int)) = false → (((↑(opn x_5.fst x_5.snd).nd : Int) != (↑(opn x_2.fst x_2.snd).nd : Int)) = true → True ∧ true = false) ∧ (((↑(opn x_5.fst x_5.snd).nd : Int) != (↑(opn x_2.fst x_2.snd).nd : Int)) = false → (((↑(opn x_6 (0 : Int)).nc : Int) != (↑b.nc : Int)) = true → True ∧ true = false) ∧ (((↑(opn x_6 (0 : Int)).nc : Int) != (↑b.nc : Int)) = false → (((↑(opn x_7 (0 : Int)).nc : Int) != (↑(opn x_6 (0 : Int)).nc : Int)) = true → True ∧ true = false) ∧ (((↑(opn x_7 (0 : Int)).nc : Int) != (↑(opn x_6 (0 : Int)).nc : Int)) = false → (∃ (g : Nat), g ≤ b.nd ∧ True ∧ ((True ∧ (0 : Int) = (↑g : Int)) ∧ True) ∧ True) ∧ ∀ (g : Nat), g ≤ b.nd → (decide ((↑g : Int) < (↑(opn x_2.fst x_2.snd).nd : Int)) = true → (0 : Int) ≤ (↑g : Int) ∧ (↑g : Int) < (↑(opn x_3.fst x_3.snd).nd : Int) ∧ (0 : Int) ≤ (↑g : Int) ∧ (↑g : Int) < (↑(opn x_2.fst x_2.snd).nd : Int) ∧ (decide (clear x_3.fst x_3.snd.toNat g < clear x_2.fst x_2.snd.toNat g) = true → True ∧ true = false) ∧ (decide (clear x_3.fst x_3.snd.toNat g < clear x_2.fst x_2.snd.toNat g) = false → (0 : Int) ≤ (↑g : Int) ∧ (↑g : Int) < (↑(opn x_5.fst x_5.snd).nd : Int) ∧ (decide ((0 : Int) < rnd x_5.fst x_5.snd.toNat g) = true → (0 : Int) ≤ (↑g : Int) ∧ (↑g : Int) < (↑(opn x_4.fst x_4.snd).nd : Int) ∧ ((rnd x_4.fst x_4.snd.toNat g == (0 : Int)) = true → True ∧ true = false) ∧ ((rnd x_4.fst x_4.snd.toNat g == (0 : Int)) = false → (0 : Int) ≤ (↑g : Int) ∧ (↑g : Int) < (↑(opn x_5.fst x_5.snd).nd : Int) ∧ (0 : Int) ≤ (↑g : Int) ∧ (↑g : Int) < (↑(opn x_4.fst x_4.snd).nd : Int) ∧ (decide (rnd x_5.fst x_5.snd.toNat g < rnd x_4.fst x_4.snd.toNat g) = true → True ∧ true = false) ∧ (decide (rnd x_5.fst x_5.snd.toNat g < rnd x_4.fst x_4.snd.toNat g) = false → inRange IntKind.i64 ((↑g : Int) + (1 : Int)) ∧ ∃ (g' : Nat), g' ≤ b.nd ∧ b.nd - g' < b.nd - g ∧ True ∧ ((True ∧ (↑g : Int) + (1 : Int) = (↑g' : Int)) ∧ True) ∧ True))) ∧ (decide ((0 : Int) < rnd x_5.fst x_5.snd.toNat g) = false → inRange IntKind.i64 ((↑g : Int) + (1 : Int)) ∧ ∃ (g' : Nat), g' ≤ b.nd ∧ b.nd - g' < b.nd - g ∧ True ∧ ((True ∧ (↑g : Int) + (1 : Int) = (↑g' : Int)) ∧ True) ∧ True))) ∧ (decide ((↑g : Int) < (↑(opn x_2.fst x_2.snd).nd : Int)) = false → (∃ (g : Nat), g ≤ b.nc ∧ True ∧ ((True ∧ (0 : Int) = (↑g : Int)) ∧ True) ∧ True) ∧ ∀ (g : Nat), g ≤ b.nc → (decide ((↑g : Int) < (↑(opn x_6 (0 : Int)).nc : Int)) = true → (0 : Int) ≤ (↑g : Int) ∧ (↑g : Int) < (↑(opn x_7 (0 : Int)).nc : Int) ∧ (0 : Int) ≤ (↑g : Int) ∧ (↑g : Int) < (↑(opn x_6 (0 : Int)).nc : Int) ∧ (decide (ln x_6 g x_6.ns < ln x_7 g x_7.ns) = true → True ∧ true = false) ∧ (decide (ln x_6 g x_6.ns < ln x_7 g x_7.ns) = false → inRange IntKind.i64 ((↑g : Int) + (1 : Int)) ∧ ∃ (g' : Nat), g' ≤ b.nc ∧ b.nc - g' < b.nc - g ∧ True ∧ ((True ∧ (↑g : Int) + (1 : Int) = (↑g' : Int)) ∧ True) ∧ True)) ∧ (decide ((↑g : Int) < (↑(opn x_6 (0 : Int)).nc : Int)) = false → ∃ (x : Unit), True ∧ True ∧ True ∧ true = true))))))))))))))) (by kernel_rfl) ?_
  simp (maxSteps := 2000000) only [true_and, and_true, inR, Prod.exists, Prod.forall, and_assoc, exists_and_left, exists_eq_left', exists_eq_left, forall_eq, exists_const, forall_const, loopN, loopM, fa2, fas, fas2, dup1, dup2, dup3, dup4, ite_true, exhs, exhn, exhz, exho, exs1, exn1, exz1, exo1, exs2, exn2, exz2, exo2, exs3, exn3, exz3, exo3, exs4, exn4, exz4, exo4, exs5, exn5, exz5, exo5, exs6, exn6, exz6, exo6, exs7, exn7, exz7, exo7, exs8, exn8, exz8, exo8, exs9, exn9, exz9, exo9, ex1, ex2, ex3, ex4, ex5, beqI, bneI, decide_true, Bool.true_and, decide_eq_true_eq, decide_eq_false_iff_not, ne_eq, Decidable.not_not]
  have hw : b.wf := h
  refine ⟨b, bk b ⟨hw, fun _ => trivial, fun hc => ?_⟩⟩
  have hc : chk b = true := by simpa using hc
  have g := good hc
  have g1 := g.nc1; have g2 := g.nc; have g3 := g.nd; have g4 := g.ns1; have g5 := g.ns
  obtain ⟨S, hS⟩ : ∃ S : Nat, s % (b.ns : Int) = S := ⟨(s % (b.ns : Int)).toNat, by have := Int.emod_nonneg s (b := (b.ns : Int)) (by omega); omega⟩
  obtain ⟨P, hP⟩ : ∃ P : Nat, p % (b.nc : Int) = P := ⟨(p % (b.nc : Int)).toNat, by have := Int.emod_nonneg p (b := (b.nc : Int)) (by omega); omega⟩
  have hS2 : S < b.ns := by have := Int.emod_lt_of_pos s (b := (b.ns : Int)) (by omega); omega
  have hP2 : P < b.nc := by have := Int.emod_lt_of_pos p (b := (b.nc : Int)) (by omega); omega
  rw [hS, hP]
  simp only [Int.toNat_natCast, Nat.sub_zero, imax_eq]
  have k1 := g.cash P hP2; have k2 := g.price S hS2; have k3 := g.bar S hS2 P hP2; have k4 := g.nb S hS2
  have c1 := chosen_in u (show b.cash P ≤ max (b.cash P) 10000 by omega)
  have c2 := chosen_in u (show b.price S ≤ max (b.price S) 100 by omega)
  have c3 := chosen_in u (show b.bar S P ≤ max (b.bar S P) 200 by omega)
  refine ⟨by omega, by omega, by omega, by omega, by omega, by omega, by omega, by omega, by omega, by omega, by omega, by omega, by omega, by omega, by omega, by omega, by omega, by omega, by omega, by omega, ?_, ?_, ?_⟩
  · intro _
    refine ⟨by omega, by omega, by omega, by omega, by omega, by omega, by omega, by omega, by omega, by omega, _, c1.1, by omega, b.price S, Int.le_refl _, by omega, b.bar S P, Int.le_refl _, by omega, by omega, fun i _ => rfl, rfl, by omega, by omega, fun i _ => same_if⟩
  · intro _
    refine ⟨fun _ => ?_, fun _ => ?_⟩
    · refine ⟨by omega, by omega, by omega, by omega, by omega, by omega, by omega, by omega, by omega, by omega, b.cash P, Int.le_refl _, by omega, b.price S, Int.le_refl _, by omega, _, c3.1, by omega, by omega, fun i _ => same_if, rfl, by omega, by omega, fun i _ => rfl⟩
    · refine ⟨by omega, by omega, by omega, by omega, b.cash P, Int.le_refl _, by omega, _, c2.1, by omega, b.bar S P, Int.le_refl _, by omega, by omega, fun i _ => same_if, rfl, by omega, by omega, fun i _ => same_if⟩
  intro c r a hh
  obtain ⟨h1, h2, h3, h4, h5, h6⟩ := hh
  obtain ⟨X, hX⟩ : ∃ X, X = alt b (fun i => if i = P then c else b.cash i) (fun i => if i = S then r else b.price i) (fun i j => if i = S then (if j = P then a else b.bar S j) else b.bar i j) := ⟨_, rfl⟩
  have gX : Good X := by
    rw [hX]
    refine alt_good g (fun i hi => ?_) (fun i hi => ?_) (fun i hi j hj => ?_)
    · have := g.cash i hi
      split <;> omega
    · have := g.price i hi
      split <;> omega
    · have := g.bar i hi j hj
      have := g.bar S hS2 j hj
      split
      · split <;> omega
      · omega
  have x1 : X.nc = b.nc := by rw [hX]; rfl
  have x2 : X.nd = b.nd := by rw [hX]; rfl
  have x3 : X.ns = b.ns := by rw [hX]; rfl
  have hwX : X.wf := by rw [hX]; exact ⟨hw.nc, hw.nd, hw.ns, hw.nb⟩
  have hh : ∀ i j, i < b.ns → j < b.nc → has b i j ≤ has X i j := by
    rw [hX]
    intro i j hi hj
    have e1 : b.cash j ≤ (if j = P then c else b.cash j) := by
      split
      · rename_i e; rw [e]; exact h1
      · exact Int.le_refl _
    have e2 : b.price i ≤ (if i = S then r else b.price i) := by
      split
      · rename_i e; rw [e]; exact h3
      · exact Int.le_refl _
    have e3 : b.bar i j ≤ (if i = S then (if j = P then a else b.bar S j) else b.bar i j) := by
      split
      · rename_i e
        rw [e]
        split
        · rename_i e; rw [e]; exact h5
        · exact Int.le_refl _
      · exact Int.le_refl _
    have f1 := g.price i hi
    have f2 := g.bar i hi j hj
    have := Int.mul_le_mul e3 e2 f1.1 (Int.le_trans f2.1 e3)
    show b.cash j + b.bar i j * b.price i ≤ (if j = P then c else b.cash j) + (if i = S then (if j = P then a else b.bar S j) else b.bar i j) * (if i = S then r else b.price i)
    omega
  have mC : ∀ i, i < b.nd → clear b S i ≤ clear X S i := by subst hX; exact fun i hi => more_clear g (fun j hj => hh S j hS2 hj) hi
  have mR : ∀ i, i < b.nd → 0 < rnd X S i → 0 < rnd b S i ∧ rnd b S i ≤ rnd X S i := by subst hX; exact fun i hi h0 => more_rnd g gX (fun j hj => hh S j hS2 hj) hi h0
  have mL : ∀ j, j < b.nc → ln X j b.ns ≤ ln b j b.ns := by subst hX; exact fun j hj => more_ln b.ns (fun i hi => hh i j hi hj)
  have eb : errOf b = 0 := err_zero.2 hc
  have eX : errOf X = 0 := err_zero.2 (chk_of gX)
  obtain ⟨ab, ob⟩ := askE_in (s := (S : Int)) eb (Cm.within_iff.2 ⟨by omega, by omega⟩)
  obtain ⟨aX, oX⟩ := askE_in (s := (S : Int)) eX (Cm.within_iff.2 ⟨by omega, by omega⟩)
  obtain ⟨_, ob0⟩ := askE_in (s := 0) eb (Cm.within_iff.2 ⟨by omega, by omega⟩)
  obtain ⟨_, oX0⟩ := askE_in (s := 0) eX (Cm.within_iff.2 ⟨by omega, by omega⟩)
  have xk : ∀ {Q : Prop}, Q → b.nc = X.nc ∧ (∀ (i : Nat), i < b.nc → (if i = P then c else b.cash i) = X.cash i) ∧ b.nd = X.nd ∧ (∀ (i : Nat), i < b.nd → b.frm i = X.frm i ∧ b.to i = X.to i ∧ b.due i = X.due i) ∧ 0 + b.ns = X.ns ∧ (∀ (i : Nat), i < 0 + b.ns → (if i = S then r else b.price i) = X.price i ∧ (if i = S then b.nb S else b.nb i) = X.nb i ∧ ∀ (i_1 : Nat), (i_1 < if i = S then b.nb S else b.nb i) → (if i = S then if i_1 = P then a else b.bar S i_1 else b.bar i i_1) = X.bar i i_1) ∧ Q := by
    intro Q hQ
    subst hX
    exact ⟨rfl, fun _ _ => rfl, rfl, fun _ _ => ⟨rfl, rfl, rfl⟩, Nat.zero_add _, fun i _ => ⟨rfl, same_nb, fun _ _ => rfl⟩, hQ⟩
  refine ⟨by omega, by omega, b, bk b ⟨hw, X, xk ⟨hwX, fun _ _ => trivial, b, bk b ⟨hw, X, xk ⟨hwX, fun _ _ => trivial, b, bk b ⟨hw, X, xk ⟨hwX, fun _ _ => trivial, ?_⟩⟩⟩⟩⟩⟩⟩
  rw [ob, oX, ob0, oX0]
  refine ⟨fun h => absurd ab h, fun _ => ⟨fun h => absurd aX h, fun _ => ⟨fun h => absurd ab h, fun _ => ⟨fun h => absurd aX h, fun _ => ⟨fun h => absurd eb h, fun _ => ⟨fun h => absurd eX h, fun _ => ?_⟩⟩⟩⟩⟩⟩
  refine ⟨fun h => absurd (by omega) h, fun _ => ⟨fun h => absurd rfl h, fun _ => ⟨fun h => absurd (by omega) h, fun _ => ⟨fun h => absurd rfl h, fun _ => ⟨fun h => absurd (by omega) h, fun _ => ⟨Nat.zero_le _, fun i hi => ⟨fun hlt => ?_, fun _ => ⟨Nat.zero_le _, fun k hk => ⟨fun hlt => ?_, fun _ => trivial⟩⟩⟩⟩⟩⟩⟩⟩⟩
  · have hi2 : i < b.nd := by omega
    have m1 := mC i hi2
    have m2 := mR i hi2
    have more : -9223372036854775808 ≤ (i : Int) + 1 ∧ (i : Int) + 1 ≤ 9223372036854775807 ∧ i + 1 ≤ b.nd ∧ b.nd - (i + 1) < b.nd - i := ⟨by omega, by omega, by omega, by omega⟩
    refine ⟨by omega, by omega, by omega, by omega, fun hcl => by omega, fun _ => ⟨by omega, by omega, fun hpos => ⟨by omega, by omega, fun hz => ?_, fun _ => ⟨by omega, by omega, by omega, by omega, fun hl => ?_, fun _ => more⟩⟩, fun _ => more⟩⟩
    · have := m2 hpos; omega
    · have := m2 hpos; omega
  · have hk2 : k < b.nc := by omega
    have m1 := mL k hk2
    rw [x3]
    exact ⟨by omega, by omega, by omega, by omega, fun hl => by omega, fun _ => ⟨by omega, by omega, by omega, by omega⟩⟩
end Go.Proofs.YthofpbnbjkdpaaaDoor
