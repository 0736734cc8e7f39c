/- Contracts: Behind. -/
import Derived.Test.YthofpbnbjkdpaaaDoorCxJ
set_option linter.unusedSimpArgs false
set_option linter.unusedVariables false
namespace Cm
def behE (b : Book) (s d : Int) : Int := if askE b s = 0 then (if within d 0 (b.nd - 1) then (if rnd b s.toNat d.toNat = 0 then 4 else 0) else 81) else askE b s
def behL (b : Book) (s d : Int) : List Nat := if behE b s d = 0 then chain b (rnd b s.toNat) d.toNat else []
theorem rnd_bd {b : Book} (g : Good b) {s i : Nat} : 0 ≤ rnd b s i ∧ rnd b s i ≤ 200000 := by
  have h1 := brk_bd (b := b) (s := s) (k := stop b s) (i := i)
  have h2 := stop_bd (s := s) g
  unfold rnd; omega
theorem behL_none {b : Book} {s d : Int} (h : ¬ behE b s d = 0) : behL b s d = [] := if_neg h
theorem behE_ask {b : Book} {s d : Int} (h : ¬ askE b s = 0) : behE b s d = askE b s := if_neg h
theorem behE_out {b : Book} {s d : Int} (h : askE b s = 0) (hw : within d 0 (b.nd - 1) = false) : behE b s d = 81 := by
  unfold behE; rw [if_pos h, hw]; rfl
theorem behE_none {b : Book} {s d : Int} (h : askE b s = 0) (hw : within d 0 (b.nd - 1) = true) (h0 : rnd b s.toNat d.toNat = 0) : behE b s d = 4 := by
  unfold behE; rw [if_pos h, hw, if_pos h0]; rfl
theorem behE_ok {b : Book} {s d : Int} (h : askE b s = 0) (hw : within d 0 (b.nd - 1) = true) (h0 : ¬ rnd b s.toNat d.toNat = 0) : behE b s d = 0 := by
  unfold behE; rw [if_pos h, hw, if_neg h0]; rfl
theorem behL_ok {b : Book} {s d : Int} (h : behE b s d = 0) : behL b s d = chain b (rnd b s.toNat) d.toNat := if_pos h
end Cm
namespace Go.Proofs.YthofpbnbjkdpaaaDoor
open Go Go.Sx Cm
set_option maxRecDepth 100000

def natL (l : List Nat) : CV := nums l.length (fun i => (l.getD i 0 : Nat))
def sBeh : Sig := ⟨Book × Int × Int, fun x => [bookTV x.1, intC x.2.1, intC x.2.2], fun x => x.1.wf, fun x => [.v (.c (natL (behL x.1 x.2.1 x.2.2))), .v (intC (behE x.1 x.2.1 x.2.2))]⟩
theorem q28 (x : sBeh.α) (h : sBeh.pre x) : CallQ Tryd.prog E0 28 (sBeh.arg x) (sBeh.res x) := by
  obtain ⟨b, s, d⟩ := x
  refine bare_again E0_ok TJ TJ_ok runs [] [] rCh r50 (fuel := 6) ?_
  refine of_red (q := ∃ (x : Book × Int), ((True ∧ ((True ∧ True ∧ True ∧ b.nc = x.fst.nc ∧ ∀ (i : Nat), i < b.nc → True ∧ b.cash i = x.fst.cash i) ∧ True ∧ True ∧ b.nd = x.fst.nd ∧ ∀ (i : Nat), i < b.nd → ((True ∧ b.frm i = x.fst.frm i) ∧ b.to i = x.fst.to i) ∧ b.due i = x.fst.due i) ∧ True ∧ True ∧ b.ns = x.fst.ns ∧ ∀ (i : Nat), i < b.ns → (True ∧ b.price i = x.fst.price i) ∧ True ∧ b.nb i = x.fst.nb i ∧ ∀ (i_1 : Nat), i_1 < b.nb i → True ∧ b.bar i i_1 = x.fst.bar i i_1) ∧ (True ∧ s = x.snd) ∧ True) ∧ x.fst.wf ∧ ((askE x.fst x.snd != (0 : Int)) = true → (True ∧ (behL b (s, d).fst (s, d).snd).length = (0 : Nat)) ∧ (True ∧ askE x.fst x.snd = behE b (s, d).fst (s, d).snd) ∧ True) ∧ ((askE x.fst x.snd != (0 : Int)) = false → inRange IntKind.i64 ((↑(opn x.fst x.snd).nd : Int) - (1 : Int)) ∧ ∃ (x_1 : Int × Int × Int), ((True ∧ d = x_1.fst) ∧ (True ∧ (0 : Int) = x_1.snd.fst) ∧ (True ∧ (↑(opn x.fst x.snd).nd : Int) - (1 : Int) = x_1.snd.snd) ∧ True) ∧ True ∧ ((!within x_1.fst x_1.snd.fst x_1.snd.snd) = true → (True ∧ (behL b (s, d).fst (s, d).snd).length = (0 : Nat)) ∧ (True ∧ (81 : Int) = behE b (s, d).fst (s, d).snd) ∧ True) ∧ ((!within x_1.fst x_1.snd.fst x_1.snd.snd) = false → ∃ (x_2 : Book × Nat), ((True ∧ ((True ∧ True ∧ True ∧ (opn x.fst x.snd).nc = x_2.fst.nc ∧ ∀ (i : Nat), i < (opn x.fst x.snd).nc → True ∧ (opn x.fst x.snd).cash i = x_2.fst.cash i) ∧ True ∧ True ∧ (opn x.fst x.snd).nd = x_2.fst.nd ∧ ∀ (i : Nat), i < (opn x.fst x.snd).nd → ((True ∧ (opn x.fst x.snd).frm i = x_2.fst.frm i) ∧ (opn x.fst x.snd).to i = x_2.fst.to i) ∧ (opn x.fst x.snd).due i = x_2.fst.due i) ∧ True ∧ True ∧ (opn x.fst x.snd).ns = x_2.fst.ns ∧ ∀ (i : Nat), i < (opn x.fst x.snd).ns → (True ∧ (opn x.fst x.snd).price i = x_2.fst.price i) ∧ True ∧ (opn x.fst x.snd).nb i = x_2.fst.nb i ∧ ∀ (i_1 : Nat), i_1 < (opn x.fst x.snd).nb i → True ∧ (opn x.fst x.snd).bar i i_1 = x_2.fst.bar i i_1) ∧ (True ∧ s = (↑x_2.snd : Int)) ∧ True) ∧ (Good x_2.fst ∧ x_2.snd < x_2.fst.ns) ∧ (0 : Int) ≤ d ∧ d < (↑(12 : Nat) : Int) ∧ (((if (0 : Nat) + d.toNat * (1 : Nat) + (0 : Nat) + (0 : Nat) < x_2.fst.nd then rnd x_2.fst x_2.snd ((0 : Nat) + d.toNat * (1 : Nat) + (0 : Nat) + (0 : Nat)) else (0 : Int)) == (0 : Int)) = true → (True ∧ (behL b (s, d).fst (s, d).snd).length = (0 : Nat)) ∧ (True ∧ (4 : Int) = behE b (s, d).fst (s, d).snd) ∧ True) ∧ (((if (0 : Nat) + d.toNat * (1 : Nat) + (0 : Nat) + (0 : Nat) < x_2.fst.nd then rnd x_2.fst x_2.snd ((0 : Nat) + d.toNat * (1 : Nat) + (0 : Nat) + (0 : Nat)) else (0 : Int)) == (0 : Int)) = false → (lookFn fnTab (50 : Nat)).isSome = true ∧ ∃ (g : ChSt), (Good g.b ∧ g.k < g.b.nd ∧ (∀ (i : Nat), i < g.b.nd → (0 : Int) ≤ g.r i ∧ g.r i ≤ (200000 : Int)) ∧ ∀ (ks : List Int) (v : Int), g.m ks = some v → ∃ (j : Nat), v = (↑j : Int) ∧ g.r g.k < g.r j) ∧ True ∧ ((True ∧ d = (↑g.k : Int)) ∧ (True ∧ (0 : Nat) = (0 : Nat)) ∧ (True ∧ (0 : Nat) = (0 : Nat)) ∧ (True ∧ (0 : Nat) = (0 : Nat)) ∧ (True ∧ (0 : Nat) = (0 : Nat)) ∧ True) ∧ ((True ∧ ((True ∧ True ∧ True ∧ (opn x.fst x.snd).nc = g.b.nc ∧ ∀ (i : Nat), i < (opn x.fst x.snd).nc → True ∧ (opn x.fst x.snd).cash i = g.b.cash i) ∧ True ∧ True ∧ (opn x.fst x.snd).nd = g.b.nd ∧ ∀ (i : Nat), i < (opn x.fst x.snd).nd → ((True ∧ (opn x.fst x.snd).frm i = g.b.frm i) ∧ (opn x.fst x.snd).to i = g.b.to i) ∧ (opn x.fst x.snd).due i = g.b.due i) ∧ True ∧ True ∧ (opn x.fst x.snd).ns = g.b.ns ∧ ∀ (i : Nat), i < (opn x.fst x.snd).ns → (True ∧ (opn x.fst x.snd).price i = g.b.price i) ∧ True ∧ (opn x.fst x.snd).nb i = g.b.nb i ∧ ∀ (i_1 : Nat), i_1 < (opn x.fst x.snd).nb i → True ∧ (opn x.fst x.snd).bar i i_1 = g.b.bar i i_1) ∧ (True ∧ True ∧ True) ∧ (True ∧ (((((((((((True ∧ True ∧ (if nat_lit 0 < x_2.fst.nd then rnd x_2.fst x_2.snd (nat_lit 0) else (0 : Int)) = if nat_lit 0 < g.b.nd then g.r (nat_lit 0) else (0 : Int)) ∧ True ∧ (if nat_lit 1 < x_2.fst.nd then rnd x_2.fst x_2.snd (nat_lit 1) else (0 : Int)) = if nat_lit 1 < g.b.nd then g.r (nat_lit 1) else (0 : Int)) ∧ True ∧ (if nat_lit 2 < x_2.fst.nd then rnd x_2.fst x_2.snd (nat_lit 2) else (0 : Int)) = if nat_lit 2 < g.b.nd then g.r (nat_lit 2) else (0 : Int)) ∧ True ∧ (if nat_lit 3 < x_2.fst.nd then rnd x_2.fst x_2.snd (nat_lit 3) else (0 : Int)) = if nat_lit 3 < g.b.nd then g.r (nat_lit 3) else (0 : Int)) ∧ True ∧ (if nat_lit 4 < x_2.fst.nd then rnd x_2.fst x_2.snd (nat_lit 4) else (0 : Int)) = if nat_lit 4 < g.b.nd then g.r (nat_lit 4) else (0 : Int)) ∧ True ∧ (if nat_lit 5 < x_2.fst.nd then rnd x_2.fst x_2.snd (nat_lit 5) else (0 : Int)) = if nat_lit 5 < g.b.nd then g.r (nat_lit 5) else (0 : Int)) ∧ True ∧ (if nat_lit 6 < x_2.fst.nd then rnd x_2.fst x_2.snd (nat_lit 6) else (0 : Int)) = if nat_lit 6 < g.b.nd then g.r (nat_lit 6) else (0 : Int)) ∧ True ∧ (if nat_lit 7 < x_2.fst.nd then rnd x_2.fst x_2.snd (nat_lit 7) else (0 : Int)) = if nat_lit 7 < g.b.nd then g.r (nat_lit 7) else (0 : Int)) ∧ True ∧ (if nat_lit 8 < x_2.fst.nd then rnd x_2.fst x_2.snd (nat_lit 8) else (0 : Int)) = if nat_lit 8 < g.b.nd then g.r (nat_lit 8) else (0 : Int)) ∧ True ∧ (if nat_lit 9 < x_2.fst.nd then rnd x_2.fst x_2.snd (nat_lit 9) else (0 : Int)) = if nat_lit 9 < g.b.nd then g.r (nat_lit 9) else (0 : Int)) ∧ True ∧ (if nat_lit 10 < x_2.fst.nd then rnd x_2.fst x_2.snd (nat_lit 10) else (0 : Int)) = if nat_lit 10 < g.b.nd then g.r (nat_lit 10) else (0 : Int)) ∧ True ∧ (if nat_lit 11 < x_2.fst.nd then rnd x_2.fst x_2.snd (nat_lit 11) else (0 : Int)) = if nat_lit 11 < g.b.nd then g.r (nat_lit 11) else (0 : Int)) ∧ (True ∧ True ∧ True ∧ True ∧ (((True ∧ True ∧ (0 : Nat) = (0 : Nat)) ∧ True ∧ (0 : Nat) = (0 : Nat)) ∧ True ∧ (0 : Nat) = (0 : Nat)) ∧ True ∧ (0 : Nat) = (0 : Nat)) ∧ (True ∧ ∀ (ks : List Int), none = g.m ks) ∧ True) ∧ (True ∧ True ∧ (chain g.b g.r g.k).length = (behL b (s, d).fst (s, d).snd).length ∧ ∀ (i : Nat), i < (chain g.b g.r g.k).length → True ∧ (↑((chain g.b g.r g.k).getD i (0 : Nat)) : Int) = (↑((behL b (s, d).fst (s, d).snd).getD i (0 : Nat)) : Int)) ∧ (True ∧ (0 : Int) = behE b (s, d).fst (s, d).snd) ∧ True)))) (by kernel_rfl) ?_
  simp only [true_and, and_true, inR, Prod.exists, Prod.forall, and_assoc, exists_and_left, exists_eq_left', exists_eq_left, forall_eq, exists_const, forall_const, loopN, loopM, fa2, fas, fas2, dup1, dup2, dup3, dup4, ite_true, exhs, exhn, exhz, exho, exs1, exn1, exz1, exo1, exs2, exn2, exz2, exo2, exs3, exn3, exz3, exo3, exs4, exn4, exz4, exo4, exs5, exn5, exz5, exo5, exs6, exn6, exz6, exo6, exs7, exn7, exz7, exo7, exs8, exn8, exz8, exo8, exs9, exn9, exz9, exo9, ex1, ex2, ex3, ex4, ex5, beqI, bneI, decide_true, Bool.true_and, decide_eq_true_eq, decide_eq_false_iff_not, ne_eq, Decidable.not_not]
  have hw : b.wf := h
  refine ⟨b, bk b ⟨hw, fun e => ?_, fun e => ?_⟩⟩
  · have e1 := behE_ask (d := d) e
    rw [behL_none (by rw [e1]; exact e), e1]; exact ⟨rfl, rfl⟩
  obtain ⟨hg, h0, h1, ho⟩ := askE_ok e
  rw [ho]
  have hnd := hg.nd
  refine ⟨by omega, by omega, fun e2 => ?_, fun e2 => ?_⟩
  · rw [Bool.not_eq_true'] at e2
    have e3 := behE_out e e2
    rw [behL_none (by rw [e3]; omega), e3]; exact ⟨rfl, rfl⟩
  rw [Bool.not_eq_false'] at e2
  have hw2 := Cm.within_iff.1 e2
  have hd : d.toNat < b.nd := by omega
  simp only [Nat.zero_add, Nat.mul_one, Nat.add_zero, if_pos hd]
  refine ⟨b, bk b ⟨s.toNat, by omega, hg, by omega, by omega, by omega, fun e3 => ?_, fun e3 => ?_⟩⟩
  · rw [if_pos hd] at e3
    have e4 := behE_none e e2 e3
    rw [behL_none (by rw [e4]; omega), e4]; exact ⟨rfl, rfl⟩
  · rw [if_pos hd] at e3
    have e4 := behE_ok e e2 e3
    rw [behL_ok e4, e4]
    exact ⟨is50, ⟨b, rnd b s.toNat, d.toNat, fun _ => none⟩, hg, hd, fun i _ => rnd_bd hg, (fun ks v hv => nomatch hv), by show d = (d.toNat : Int); omega, bk b ⟨rfl, rfl, rfl, rfl, rfl, rfl, rfl, rfl, rfl, rfl, rfl, rfl, fun _ => rfl, rfl, fun _ _ => rfl, rfl⟩⟩

def muB (x : Book × (Nat → Int) × Nat) : Nat := (x.2.1 x.2.2).toNat
def sB (n : Nat) : Sig := ⟨Book × (Nat → Int) × Nat, fun x => [bookTV x.1, .c (nums x.1.nd x.2.1), intC x.2.2], fun x => Good x.1 ∧ x.2.2 < x.1.nd ∧ (∀ i, i < x.1.nd → 0 ≤ x.2.1 i ∧ x.2.1 i ≤ 200000) ∧ muB x < n, fun x => [.own 3 1 (chain x.1 x.2.1 x.2.2).length (fun j _ => .int .i64 ((chain x.1 x.2.1 x.2.2).getD j 0 : Nat))]⟩
def aCh53 (b : Book) (r : Nat → Int) (k : Nat) : Ann := { G := Nat, ok := fun _ i => i ≤ b.nd ∧ ∀ j, j < i → bef b r k j = false, dom := fun _ => [], tm := fun _ i => [(7, .t (intC i))], hp := fun _ _ => [], mu := fun _ i => b.nd - i }
theorem r53 (n : Nat) (ih : ∀ x, (sB n).pre x → CallQ Tryd.prog E0 53 ((sB n).arg x) ((sB n).res x)) (b : Book) (r : Nat → Int) (k : Nat) (h : (sB (n + 1)).pre (b, r, k)) : CallQ Tryd.prog E0 53 ((sB (n + 1)).arg (b, r, k)) ((sB (n + 1)).res (b, r, k)) := by
  refine bare_with E0_ok ((53, sB n) :: TJ) (TJ_ok.cons (runs 53 (by kernel_rfl)) ih) runs [(53, 2, aCh53 b r k)] [] (fuel := 6) ?_
  refine of_red (q := (∃ (g : Nat), (g ≤ b.nd ∧ ∀ (j : Nat), j < g → bef b r k j = false) ∧ True ∧ ((True ∧ (0 : Int) = (↑g : Int)) ∧ True) ∧ True) ∧ ∀ (g : Nat), (g ≤ b.nd ∧ ∀ (j : Nat), j < g → bef b r k j = false) → (decide ((↑g : Int) < (↑b.nd : Int)) = true → (0 : Int) ≤ (↑g : Int) ∧ (↑g : Int) < (↑b.nd : Int) ∧ (decide ((0 : Int) < r g) = true → (0 : Int) ≤ (↑g : Int) ∧ (↑g : Int) < (↑b.nd : Int) ∧ (0 : Int) ≤ (↑k : Int) ∧ (↑k : Int) < (↑b.nd : Int) ∧ (decide ((0 : Int) < r g) = true → (decide (r g < r k) = true → (0 : Int) ≤ (↑g : Int) ∧ (↑g : Int) < (↑b.nd : Int) ∧ (0 : Int) ≤ (↑k : Int) ∧ (↑k : Int) < (↑b.nd : Int) ∧ (decide (r g < r k) = true → ((b.to g == b.frm k) = true → ∃ (x : Book × (Nat → Int) × Nat), ((True ∧ ((True ∧ True ∧ True ∧ b.nc = x.fst.nc ∧ ∀ (i : Nat), i < b.nc → True ∧ b.cash i = x.fst.cash i) ∧ True ∧ True ∧ b.nd = x.fst.nd ∧ ∀ (i : Nat), i < b.nd → ((True ∧ b.frm i = x.fst.frm i) ∧ b.to i = x.fst.to i) ∧ b.due i = x.fst.due i) ∧ True ∧ True ∧ b.ns = x.fst.ns ∧ ∀ (i : Nat), i < b.ns → (True ∧ b.price i = x.fst.price i) ∧ True ∧ b.nb i = x.fst.nb i ∧ ∀ (i_1 : Nat), i_1 < b.nb i → True ∧ b.bar i i_1 = x.fst.bar i i_1) ∧ (True ∧ True ∧ b.nd = x.fst.nd ∧ ∀ (i : Nat), i < b.nd → True ∧ (r, k).fst i = x.snd.fst i) ∧ (True ∧ (↑g : Int) = (↑x.snd.snd : Int)) ∧ True) ∧ (Good x.fst ∧ x.snd.snd < x.fst.nd ∧ (∀ (i : Nat), i < x.fst.nd → (0 : Int) ≤ x.snd.fst i ∧ x.snd.fst i ≤ (200000 : Int)) ∧ muB x < n) ∧ ((chain x.fst x.snd.fst x.snd.snd).length + (1 : Nat)) * (8 : Nat) ≤ (140737488355328 : Nat) ∧ (chain x.fst x.snd.fst x.snd.snd).length + (1 : Nat) < (4611686018427387904 : Nat) ∧ True ∧ (chain x.fst x.snd.fst x.snd.snd).length + (1 : Nat) = (chain b (r, k).fst (r, k).snd).length ∧ True ∧ True ∧ (chain x.fst x.snd.fst x.snd.snd).length + (1 : Nat) = (chain b (r, k).fst (r, k).snd).length ∧ ∀ (i : Nat), i < (chain x.fst x.snd.fst x.snd.snd).length + (1 : Nat) → True ∧ (if i < (chain x.fst x.snd.fst x.snd.snd).length then (↑((chain x.fst x.snd.fst x.snd.snd).getD i (0 : Nat)) : Int) else if i - (chain x.fst x.snd.fst x.snd.snd).length = (0 : Nat) then (↑k : Int) else (0 : Int)) = (↑((chain b (r, k).fst (r, k).snd).getD i (0 : Nat)) : Int)) ∧ ((b.to g == b.frm k) = false → inRange IntKind.i64 ((↑g : Int) + (1 : Int)) ∧ ∃ (g' : Nat), (g' ≤ b.nd ∧ ∀ (j : Nat), j < g' → bef b r k j = false) ∧ b.nd - g' < b.nd - g ∧ True ∧ ((True ∧ (↑g : Int) + (1 : Int) = (↑g' : Int)) ∧ True) ∧ True)) ∧ (decide (r g < r k) = false → inRange IntKind.i64 ((↑g : Int) + (1 : Int)) ∧ ∃ (g' : Nat), (g' ≤ b.nd ∧ ∀ (j : Nat), j < g' → bef b r k j = false) ∧ b.nd - g' < b.nd - g ∧ True ∧ ((True ∧ (↑g : Int) + (1 : Int) = (↑g' : Int)) ∧ True) ∧ True)) ∧ (decide (r g < r k) = false → (decide (r g < r k) = true → False) ∧ (decide (r g < r k) = false → inRange IntKind.i64 ((↑g : Int) + (1 : Int)) ∧ ∃ (g' : Nat), (g' ≤ b.nd ∧ ∀ (j : Nat), j < g' → bef b r k j = false) ∧ b.nd - g' < b.nd - g ∧ True ∧ ((True ∧ (↑g : Int) + (1 : Int) = (↑g' : Int)) ∧ True) ∧ True))) ∧ (decide ((0 : Int) < r g) = false → inRange IntKind.i64 ((↑g : Int) + (1 : Int)) ∧ ∃ (g' : Nat), (g' ≤ b.nd ∧ ∀ (j : Nat), j < g' → bef b r k j = false) ∧ b.nd - g' < b.nd - g ∧ True ∧ ((True ∧ (↑g : Int) + (1 : Int) = (↑g' : Int)) ∧ True) ∧ True)) ∧ (decide ((0 : Int) < r g) = false → (decide ((0 : Int) < r g) = true → False) ∧ (decide ((0 : Int) < r g) = false → inRange IntKind.i64 ((↑g : Int) + (1 : Int)) ∧ ∃ (g' : Nat), (g' ≤ b.nd ∧ ∀ (j : Nat), j < g' → bef b r k j = false) ∧ b.nd - g' < b.nd - g ∧ True ∧ ((True ∧ (↑g : Int) + (1 : Int) = (↑g' : Int)) ∧ True) ∧ True))) ∧ (decide ((↑g : Int) < (↑b.nd : Int)) = false → True ∧ (1 : Nat) = (chain b (r, k).fst (r, k).snd).length ∧ True ∧ True ∧ (1 : Nat) = (chain b (r, k).fst (r, k).snd).length ∧ ∀ (i : Nat), i < (1 : Nat) → True ∧ (if i = (0 : Nat) then (↑k : Int) else (0 : Int)) = (↑((chain b (r, k).fst (r, k).snd).getD i (0 : Nat)) : Int))) (by kernel_rfl) ?_
  simp only [true_and, and_true, inR, Prod.exists, Prod.forall, and_assoc, exists_and_left, exists_eq_left', exists_eq_left, forall_eq, exists_const, forall_const, loopN, loopM, fa2, fas, fas2, dup1, dup2, dup3, dup4, ite_true, exhs, exhn, exhz, exho, exs1, exn1, exz1, exo1, exs2, exn2, exz2, exo2, exs3, exn3, exz3, exo3, exs4, exn4, exz4, exo4, exs5, exn5, exz5, exo5, exs6, exn6, exz6, exo6, exs7, exn7, exz7, exo7, exs8, exn8, exz8, exo8, exs9, exn9, exz9, exo9, ex1, ex2, ex3, ex4, ex5, beqI, bneI, decide_true, Bool.true_and, decide_eq_true_eq, decide_eq_false_iff_not, ne_eq, Decidable.not_not]
  obtain ⟨hg, hk, hr, hn⟩ : Good b ∧ k < b.nd ∧ (∀ i, i < b.nd → 0 ≤ r i ∧ r i ≤ 200000) ∧ muB (b, r, k) < n + 1 := h
  have hn1 : (r k).toNat < n + 1 := hn
  have hnd := hg.nd
  refine ⟨by omega, fun j hj => by omega, fun g hlt hb => ?_, fun hb => ?_⟩
  · have hno : ¬ (0 < r g ∧ r g < r k ∧ b.to g = b.frm k) → ∀ j, j < g + 1 → bef b r k j = false := fun hh j hj => by
      by_cases e : j = g
      · subst e
        cases e2 : bef b r k j with
        | false => rfl
        | true => exact absurd (bef_iff.1 e2) hh
      · exact hb j (by omega)
    have more : ¬ (0 < r g ∧ r g < r k ∧ b.to g = b.frm k) → -9223372036854775808 ≤ (g : Int) + 1 ∧ (g : Int) + 1 ≤ 9223372036854775807 ∧ g + 1 ≤ b.nd ∧ (∀ (j : Nat), j < g + 1 → bef b r k j = false) ∧ b.nd - (g + 1) < b.nd - g := fun hh => ⟨by omega, by omega, by omega, hno hh, by omega⟩
    refine ⟨by omega, by omega, fun h0 => ⟨by omega, by omega, by omega, by omega, fun _ => ⟨fun h1 => ⟨by omega, by omega, by omega, by omega, fun _ => ⟨fun h2 => ?_, fun h2 => more (fun h => h2 h.2.2)⟩, fun h => absurd h1 h⟩, fun h1 => more (fun h => h1 h.2.1)⟩, fun h => absurd h0 h⟩, fun h0 => more (fun h => h0 h.1)⟩
    have hfst := firstB_at hlt (bef_iff.2 ⟨h0, h1, h2⟩) hb
    have hch : chain b r k = chain b r g ++ [k] := by
      have := chain_some (b := b) (r := r) (k := k) (by rw [hfst]; exact hlt)
      rw [hfst] at this; exact this
    have hlen := chain_len (b := b) (r := r) (k := k) hr hk
    rw [hch, List.length_append] at hlen
    simp only [List.length_singleton] at hlen
    refine ⟨b, bk b ⟨rfl, r, fun _ _ => rfl, hg, hlt, hr, ?_, by omega, by omega, ?_, ?_, fun i hi => ?_⟩⟩
    · show (r g).toNat < n
      omega
    · rw [hch]; simp
    · rw [hch]; simp
    · rw [hch]
      by_cases e : i < (chain b r g).length
      · rw [if_pos e]; simp [List.getD_eq_getElem?_getD, List.getElem?_append_left e]
      · obtain rfl : i = (chain b r g).length := (by omega)
        rw [if_neg e, Nat.sub_self, if_pos rfl]
        simp
  · have hfst := firstB_none hb
    have hch := chain_none (b := b) (r := r) (k := k) (by rw [hfst]; omega)
    rw [hch]
    exact ⟨rfl, rfl, fun i hi => by obtain rfl : i = 0 := (by omega); simp⟩

theorem q53n : ∀ n x, (sB n).pre x → CallQ Tryd.prog E0 53 ((sB n).arg x) ((sB n).res x)
  | 0, _, h => absurd h.2.2.2 (Nat.not_lt_zero _)
  | n + 1, x, h => r53 n (q53n n) x.1 x.2.1 x.2.2 h
def sBe : Sig := ⟨Book × (Nat → Int) × Nat, fun x => [bookTV x.1, .c (nums x.1.nd x.2.1), intC x.2.2], fun x => Good x.1 ∧ x.2.2 < x.1.nd ∧ (∀ i, i < x.1.nd → 0 ≤ x.2.1 i ∧ x.2.1 i ≤ 200000), fun x => [.own 3 1 (chain x.1 x.2.1 x.2.2).length (fun j _ => .int .i64 ((chain x.1 x.2.1 x.2.2).getD j 0 : Nat))]⟩
theorem q53 (x : sBe.α) (h : sBe.pre x) : CallQ Tryd.prog E0 53 (sBe.arg x) (sBe.res x) := q53n (muB x + 1) x ⟨h.1, h.2.1, h.2.2, Nat.lt_succ_self _⟩
def TK : List (Nat × Sig) := (53, sBe) :: TJ
theorem TK_ok : SigsOk Tryd.prog E0 TK := TJ_ok.cons (runs 53 (by kernel_rfl)) q53
theorem q29 (x : sBeh.α) (h : sBeh.pre x) : CallQ Tryd.prog E0 29 (sBeh.arg x) (sBeh.res x) := by
  obtain ⟨b, s, d⟩ := x
  refine bare_with E0_ok TK TK_ok runs [] [] (fuel := 6) ?_
  refine of_red (q := ∃ (x : Book × Int), ((True ∧ ((True ∧ True ∧ True ∧ b.nc = x.fst.nc ∧ ∀ (i : Nat), i < b.nc → True ∧ b.cash i = x.fst.cash i) ∧ True ∧ True ∧ b.nd = x.fst.nd ∧ ∀ (i : Nat), i < b.nd → ((True ∧ b.frm i = x.fst.frm i) ∧ b.to i = x.fst.to i) ∧ b.due i = x.fst.due i) ∧ True ∧ True ∧ b.ns = x.fst.ns ∧ ∀ (i : Nat), i < b.ns → (True ∧ b.price i = x.fst.price i) ∧ True ∧ b.nb i = x.fst.nb i ∧ ∀ (i_1 : Nat), i_1 < b.nb i → True ∧ b.bar i i_1 = x.fst.bar i i_1) ∧ (True ∧ s = x.snd) ∧ True) ∧ x.fst.wf ∧ ((askE x.fst x.snd != (0 : Int)) = true → (True ∧ (behL b (s, d).fst (s, d).snd).length = (0 : Nat)) ∧ (True ∧ askE x.fst x.snd = behE b (s, d).fst (s, d).snd) ∧ True) ∧ ((askE x.fst x.snd != (0 : Int)) = false → inRange IntKind.i64 ((↑b.nd : Int) - (1 : Int)) ∧ ∃ (x : Int × Int × Int), ((True ∧ d = x.fst) ∧ (True ∧ (0 : Int) = x.snd.fst) ∧ (True ∧ (↑b.nd : Int) - (1 : Int) = x.snd.snd) ∧ True) ∧ True ∧ ((!within x.fst x.snd.fst x.snd.snd) = true → (True ∧ (behL b (s, d).fst (s, d).snd).length = (0 : Nat)) ∧ (True ∧ (81 : Int) = behE b (s, d).fst (s, d).snd) ∧ True) ∧ ((!within x.fst x.snd.fst x.snd.snd) = false → ∃ (x : Book × Nat), ((True ∧ ((True ∧ True ∧ True ∧ b.nc = x.fst.nc ∧ ∀ (i : Nat), i < b.nc → True ∧ b.cash i = x.fst.cash i) ∧ True ∧ True ∧ b.nd = x.fst.nd ∧ ∀ (i : Nat), i < b.nd → ((True ∧ b.frm i = x.fst.frm i) ∧ b.to i = x.fst.to i) ∧ b.due i = x.fst.due i) ∧ True ∧ True ∧ b.ns = x.fst.ns ∧ ∀ (i : Nat), i < b.ns → (True ∧ b.price i = x.fst.price i) ∧ True ∧ b.nb i = x.fst.nb i ∧ ∀ (i_1 : Nat), i_1 < b.nb i → True ∧ b.bar i i_1 = x.fst.bar i i_1) ∧ (True ∧ s = (↑x.snd : Int)) ∧ True) ∧ (Good x.fst ∧ x.snd < x.fst.ns) ∧ (0 : Int) ≤ d ∧ d < (↑x.fst.nd : Int) ∧ ((rnd x.fst x.snd d.toNat == (0 : Int)) = true → (True ∧ (behL b (s, d).fst (s, d).snd).length = (0 : Nat)) ∧ (True ∧ (4 : Int) = behE b (s, d).fst (s, d).snd) ∧ True) ∧ ((rnd x.fst x.snd d.toNat == (0 : Int)) = false → ∃ (x_1 : Book × (Nat → Int) × Nat), ((True ∧ ((True ∧ True ∧ True ∧ b.nc = x_1.fst.nc ∧ ∀ (i : Nat), i < b.nc → True ∧ b.cash i = x_1.fst.cash i) ∧ True ∧ True ∧ b.nd = x_1.fst.nd ∧ ∀ (i : Nat), i < b.nd → ((True ∧ b.frm i = x_1.fst.frm i) ∧ b.to i = x_1.fst.to i) ∧ b.due i = x_1.fst.due i) ∧ True ∧ True ∧ b.ns = x_1.fst.ns ∧ ∀ (i : Nat), i < b.ns → (True ∧ b.price i = x_1.fst.price i) ∧ True ∧ b.nb i = x_1.fst.nb i ∧ ∀ (i_1 : Nat), i_1 < b.nb i → True ∧ b.bar i i_1 = x_1.fst.bar i i_1) ∧ (True ∧ True ∧ x.fst.nd = x_1.fst.nd ∧ ∀ (i : Nat), i < x.fst.nd → True ∧ rnd x.fst x.snd i = x_1.snd.fst i) ∧ (True ∧ d = (↑x_1.snd.snd : Int)) ∧ True) ∧ (Good x_1.fst ∧ x_1.snd.snd < x_1.fst.nd ∧ ∀ (i : Nat), i < x_1.fst.nd → (0 : Int) ≤ x_1.snd.fst i ∧ x_1.snd.fst i ≤ (200000 : Int)) ∧ (True ∧ True ∧ (chain x_1.fst x_1.snd.fst x_1.snd.snd).length = (behL b (s, d).fst (s, d).snd).length ∧ ∀ (i : Nat), i < (chain x_1.fst x_1.snd.fst x_1.snd.snd).length → True ∧ (↑((chain x_1.fst x_1.snd.fst x_1.snd.snd).getD i (0 : Nat)) : Int) = (↑((behL b (s, d).fst (s, d).snd).getD i (0 : Nat)) : Int)) ∧ (True ∧ (0 : Int) = behE b (s, d).fst (s, d).snd) ∧ True)))) (by kernel_rfl) ?_
  simp only [true_and, and_true, inR, Prod.exists, Prod.forall, and_assoc, exists_and_left, exists_eq_left', exists_eq_left, forall_eq, exists_const, forall_const, loopN, loopM, fa2, fas, fas2, dup1, dup2, dup3, dup4, ite_true, exhs, exhn, exhz, exho, exs1, exn1, exz1, exo1, exs2, exn2, exz2, exo2, exs3, exn3, exz3, exo3, exs4, exn4, exz4, exo4, exs5, exn5, exz5, exo5, exs6, exn6, exz6, exo6, exs7, exn7, exz7, exo7, exs8, exn8, exz8, exo8, exs9, exn9, exz9, exo9, ex1, ex2, ex3, ex4, ex5, beqI, bneI, decide_true, Bool.true_and, decide_eq_true_eq, decide_eq_false_iff_not, ne_eq, Decidable.not_not]
  have hw : b.wf := h
  have hnd0 := hw.nd
  refine ⟨b, bk b ⟨hw, fun e => ?_, fun e => ?_⟩⟩
  · have e1 := behE_ask (d := d) e
    rw [behL_none (by rw [e1]; exact e), e1]; exact ⟨rfl, rfl⟩
  obtain ⟨hg, h0, h1, ho⟩ := askE_ok e
  have hnd := hg.nd
  refine ⟨by omega, by omega, fun e2 => ?_, fun e2 => ?_⟩
  · rw [Bool.not_eq_true'] at e2
    have e3 := behE_out e e2
    rw [behL_none (by rw [e3]; omega), e3]; exact ⟨rfl, rfl⟩
  rw [Bool.not_eq_false'] at e2
  have hw2 := Cm.within_iff.1 e2
  have hd : d.toNat < b.nd := by omega
  refine ⟨b, bk b ⟨s.toNat, by omega, hg, by omega, by omega, by omega, fun e3 => ?_, fun e3 => ?_⟩⟩
  · have e4 := behE_none e e2 e3
    rw [behL_none (by rw [e4]; omega), e4]; exact ⟨rfl, rfl⟩
  · have e4 := behE_ok e e2 e3
    rw [behL_ok e4, e4]
    exact ⟨b, bk b ⟨rfl, rnd b s.toNat, fun _ _ => rfl, d.toNat, by omega, hg, hd, fun i _ => rnd_bd hg, rfl, fun _ _ => rfl, rfl⟩⟩
def TL : List (Nat × Sig) := (29, sBeh) :: (28, sBeh) :: (27, sLoans) :: (26, sLoans) :: (25, sBreaks) :: (24, sBreaks) :: (22, sLeft) :: (21, sLeft) :: (38, sOwn) :: TK
theorem TL_ok : SigsOk Tryd.prog E0 TL := ((((((((TK_ok.cons (runs 38 (by kernel_rfl)) q38).cons (runs 21 (by kernel_rfl)) q21).cons (runs 22 (by kernel_rfl)) q22).cons (runs 24 (by kernel_rfl)) q24).cons (runs 25 (by kernel_rfl)) q25).cons (runs 26 (by kernel_rfl)) q26).cons (runs 27 (by kernel_rfl)) q27).cons (runs 28 (by kernel_rfl)) q28).cons (runs 29 (by kernel_rfl)) q29
end Go.Proofs.YthofpbnbjkdpaaaDoor
