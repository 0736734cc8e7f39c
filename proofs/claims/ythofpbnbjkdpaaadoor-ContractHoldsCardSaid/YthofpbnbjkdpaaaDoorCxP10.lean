/- The law ContractHolds as a contract. -/
import Derived.Test.YthofpbnbjkdpaaaDoorCxP6
import Derived.Test.YthofpbnbjkdpaaaDoorCxMath4
set_option linter.unusedSimpArgs false
set_option linter.unusedVariables false
namespace Go.Proofs.YthofpbnbjkdpaaaDoor
open Go Go.Sx Cm
set_option maxRecDepth 100000

def aHo1 (b : Book) : Ann := { G := Nat, ok := fun _ K => K ≤ b.ns, dom := fun _ => [], tm := fun _ K => [(7, .t (intC K))], hp := fun _ _ => [], mu := fun _ K => b.ns - K }
def aHo2 (b : Book) : Ann := { G := Nat, ok := fun _ i => i ≤ b.nd, dom := fun _ => [], tm := fun _ i => [(12, .t (intC i))], hp := fun _ _ => [], mu := fun _ i => b.nd - i }
def aHo0 (b : Book) : Ann := { G := Nat, ok := fun _ L => (brE b = 0 ∧ brS b = L) ∨ (brE b = 4 ∧ L + 1 = b.ns), dom := fun _ => [], tm := fun _ L => [(6, .t (intC L))], hp := fun _ _ => [], mu := fun _ _ => 0 }
def sLaw10 : Sig := ⟨Book, fun x => [bookTV x], fun x => x.wf, fun _ => [.v (.c (.bool true))]⟩
theorem q10 (b : sLaw10.α) (h : sLaw10.pre b) : CallQ Tryd.prog E0 10 (sLaw10.arg b) (sLaw10.res b) := by
  refine bare_keep E0_ok TN TN_ok runs [(10, 12, aHo1 b), (10, 19, aHo2 b)] [(10, 11, aHo0 b)] (fuel := 6) ?_
  refine of_red (q := ∃ (x : Book), ((True ∧ ((True ∧ True ∧ True ∧ b.nc = x.nc ∧ ∀ (i : Nat), i < b.nc → True ∧ b.cash i = x.cash i) ∧ True ∧ True ∧ b.nd = x.nd ∧ ∀ (i : Nat), i < b.nd → ((True ∧ b.frm i = x.frm i) ∧ b.to i = x.to i) ∧ b.due i = x.due i) ∧ True ∧ True ∧ b.ns = x.ns ∧ ∀ (i : Nat), i < b.ns → (True ∧ b.price i = x.price i) ∧ True ∧ b.nb i = x.nb i ∧ ∀ (i_1 : Nat), i_1 < b.nb i → True ∧ b.bar i i_1 = x.bar i i_1) ∧ True) ∧ x.wf ∧ ∃ (x_1 : Book), ((True ∧ ((True ∧ True ∧ True ∧ b.nc = x_1.nc ∧ ∀ (i : Nat), i < b.nc → True ∧ b.cash i = x_1.cash i) ∧ True ∧ True ∧ b.nd = x_1.nd ∧ ∀ (i : Nat), i < b.nd → ((True ∧ b.frm i = x_1.frm i) ∧ b.to i = x_1.to i) ∧ b.due i = x_1.due i) ∧ True ∧ True ∧ b.ns = x_1.ns ∧ ∀ (i : Nat), i < b.ns → (True ∧ b.price i = x_1.price i) ∧ True ∧ b.nb i = x_1.nb i ∧ ∀ (i_1 : Nat), i_1 < b.nb i → True ∧ b.bar i i_1 = x_1.bar i i_1) ∧ True) ∧ x_1.wf ∧ ((!Cm.chk x_1) = true → ((brE x != (0 : Int)) = true → ((brS x == (0 : Int)) = true → ((brD x == (0 : Int)) = true → ∃ (x : Unit), True ∧ True ∧ True ∧ true = true) ∧ ((brD x == (0 : Int)) = false → True ∧ true = false)) ∧ ((brS x == (0 : Int)) = false → True ∧ true = false)) ∧ ((brE x != (0 : Int)) = false → True ∧ true = false)) ∧ ((!Cm.chk x_1) = false → inRange IntKind.i64 ((↑b.ns : Int) - (1 : Int)) ∧ (((brE x == (0 : Int)) = true → inRange IntKind.i64 ((↑b.ns : Int) - (1 : Int)) ∧ ∃ (x_2 : Int × Int × Int), ((True ∧ brS x = x_2.fst) ∧ (True ∧ (0 : Int) = x_2.snd.fst) ∧ (True ∧ (↑b.ns : Int) - (1 : Int) = x_2.snd.snd) ∧ True) ∧ True ∧ ((!within x_2.fst x_2.snd.fst x_2.snd.snd) = true → True ∧ true = false) ∧ ((!within x_2.fst x_2.snd.fst x_2.snd.snd) = false → inRange IntKind.i64 ((↑b.nd : Int) - (1 : Int)) ∧ ∃ (x_3 : Int × Int × Int), ((True ∧ brD x = x_3.fst) ∧ (True ∧ (0 : Int) = x_3.snd.fst) ∧ (True ∧ (↑b.nd : Int) - (1 : Int) = x_3.snd.snd) ∧ True) ∧ True ∧ ((!within x_3.fst x_3.snd.fst x_3.snd.snd) = true → True ∧ true = false) ∧ ((!within x_3.fst x_3.snd.fst x_3.snd.snd) = false → ∃ (g : Nat), (brE b = (0 : Int) ∧ brS b = (↑g : Int) ∨ brE b = (4 : Int) ∧ g + (1 : Nat) = b.ns) ∧ True ∧ ((True ∧ brS x = (↑g : Int)) ∧ True) ∧ True))) ∧ ((brE x == (0 : Int)) = false → ((brE x != (4 : Int)) = true → True ∧ true = false) ∧ ((brE x != (4 : Int)) = false → ((brS x != (0 : Int)) = true → True ∧ true = false) ∧ ((brS x != (0 : Int)) = false → ((brD x != (0 : Int)) = true → True ∧ true = false) ∧ ((brD x != (0 : Int)) = false → ∃ (g : Nat), (brE b = (0 : Int) ∧ brS b = (↑g : Int) ∨ brE b = (4 : Int) ∧ g + (1 : Nat) = b.ns) ∧ True ∧ ((True ∧ (↑b.ns : Int) - (1 : Int) = (↑g : Int)) ∧ True) ∧ True))))) ∧ ∀ (g : Nat), brE b = (0 : Int) ∧ brS b = (↑g : Int) ∨ brE b = (4 : Int) ∧ g + (1 : Nat) = b.ns → (∃ (g : Nat), g ≤ b.ns ∧ True ∧ ((True ∧ (0 : Int) = (↑g : Int)) ∧ True) ∧ True) ∧ ∀ (g_1 : Nat), g_1 ≤ b.ns → (decide ((↑g_1 : Int) ≤ (↑g : Int)) = true → ∃ (x_2 : Book × Int), ((True ∧ ((True ∧ True ∧ True ∧ b.nc = x_2.fst.nc ∧ ∀ (i : Nat), i < b.nc → True ∧ b.cash i = x_2.fst.cash i) ∧ True ∧ True ∧ b.nd = x_2.fst.nd ∧ ∀ (i : Nat), i < b.nd → ((True ∧ b.frm i = x_2.fst.frm i) ∧ b.to i = x_2.fst.to i) ∧ b.due i = x_2.fst.due i) ∧ True ∧ True ∧ b.ns = x_2.fst.ns ∧ ∀ (i : Nat), i < b.ns → (True ∧ b.price i = x_2.fst.price i) ∧ True ∧ b.nb i = x_2.fst.nb i ∧ ∀ (i_1 : Nat), i_1 < b.nb i → True ∧ b.bar i i_1 = x_2.fst.bar i i_1) ∧ (True ∧ (↑g_1 : Int) = x_2.snd) ∧ True) ∧ x_2.fst.wf ∧ ∃ (x_3 : Book × Int), ((True ∧ ((True ∧ True ∧ True ∧ b.nc = x_3.fst.nc ∧ ∀ (i : Nat), i < b.nc → True ∧ b.cash i = x_3.fst.cash i) ∧ True ∧ True ∧ b.nd = x_3.fst.nd ∧ ∀ (i : Nat), i < b.nd → ((True ∧ b.frm i = x_3.fst.frm i) ∧ b.to i = x_3.fst.to i) ∧ b.due i = x_3.fst.due i) ∧ True ∧ True ∧ b.ns = x_3.fst.ns ∧ ∀ (i : Nat), i < b.ns → (True ∧ b.price i = x_3.fst.price i) ∧ True ∧ b.nb i = x_3.fst.nb i ∧ ∀ (i_1 : Nat), i_1 < b.nb i → True ∧ b.bar i i_1 = x_3.fst.bar i i_1) ∧ (True ∧ (↑g_1 : Int) = x_3.snd) ∧ True) ∧ x_3.fst.wf ∧ ((askE x_2.fst x_2.snd != (0 : Int)) = true → True ∧ true = false) ∧ ((askE x_2.fst x_2.snd != (0 : Int)) = false → ((askE x_3.fst x_3.snd != (0 : Int)) = true → True ∧ true = false) ∧ ((askE x_3.fst x_3.snd != (0 : Int)) = false → (((↑(opn x_2.fst x_2.snd).nd : Int) != (↑b.nd : Int)) = true → True ∧ true = false) ∧ (((↑(opn x_2.fst x_2.snd).nd : Int) != (↑b.nd : Int)) = false → (((↑(opn x_3.fst x_3.snd).nd : Int) != (↑(opn x_2.fst x_2.snd).nd : Int)) = true → True ∧ true = false) ∧ (((↑(opn x_3.fst x_3.snd).nd : Int) != (↑(opn x_2.fst x_2.snd).nd : Int)) = false → (∃ (g : Nat), g ≤ b.nd ∧ True ∧ ((True ∧ (0 : Int) = (↑g : Int)) ∧ True) ∧ True) ∧ ∀ (g : Nat), g ≤ b.nd → (decide ((↑g : Int) < (↑(opn x_2.fst x_2.snd).nd : Int)) = true → (0 : Int) ≤ (↑g : Int) ∧ (↑g : Int) < (↑(opn x_2.fst x_2.snd).nd : Int) ∧ (0 : Int) ≤ (↑g : Int) ∧ (↑g : Int) < (↑b.nd : Int) ∧ (0 : Int) ≤ (↑g : Int) ∧ (↑g : Int) < (↑(opn x_3.fst x_3.snd).nd : Int) ∧ ((!decide (clear x_2.fst x_2.snd.toNat g < b.due g) == decide ((0 : Int) < rnd x_3.fst x_3.snd.toNat g)) = true → True ∧ true = false) ∧ ((!decide (clear x_2.fst x_2.snd.toNat g < b.due g) == decide ((0 : Int) < rnd x_3.fst x_3.snd.toNat g)) = false → (decide (clear x_2.fst x_2.snd.toNat g < b.due g) = true → ((brE x != (0 : Int)) = true → True ∧ true = false) ∧ ((brE x != (0 : Int)) = false → (decide ((↑g_1 : Int) < brS x) = true → True ∧ true = false) ∧ (decide ((↑g_1 : Int) < brS x) = false → (0 : Int) ≤ brD x ∧ brD x < (↑(opn x_3.fst x_3.snd).nd : Int) ∧ ((rnd x_3.fst x_3.snd.toNat (brD x).toNat == (0 : Int)) = true → True ∧ true = false) ∧ ((rnd x_3.fst x_3.snd.toNat (brD x).toNat == (0 : Int)) = false → (0 : Int) ≤ (↑g : Int) ∧ (↑g : Int) < (↑(opn x_3.fst x_3.snd).nd : Int) ∧ (0 : Int) ≤ brD x ∧ brD x < (↑(opn x_3.fst x_3.snd).nd : Int) ∧ (decide (rnd x_3.fst x_3.snd.toNat g < rnd x_3.fst x_3.snd.toNat (brD x).toNat) = true → True ∧ true = false) ∧ (decide (rnd x_3.fst x_3.snd.toNat g < rnd x_3.fst x_3.snd.toNat (brD x).toNat) = false → (0 : Int) ≤ (↑g : Int) ∧ (↑g : Int) < (↑(opn x_3.fst x_3.snd).nd : Int) ∧ (0 : Int) ≤ brD x ∧ brD x < (↑(opn x_3.fst x_3.snd).nd : Int) ∧ ((rnd x_3.fst x_3.snd.toNat g == rnd x_3.fst x_3.snd.toNat (brD x).toNat) = true → (decide ((↑g : Int) < brD x) = true → True ∧ true = false) ∧ (decide ((↑g : Int) < brD x) = false → inRange IntKind.i64 ((↑g : Int) + (1 : Int)) ∧ ∃ (g' : Nat), g' ≤ b.nd ∧ b.nd - g' < b.nd - g ∧ True ∧ ((True ∧ (↑g : Int) + (1 : Int) = (↑g' : Int)) ∧ True) ∧ True)) ∧ ((rnd x_3.fst x_3.snd.toNat g == rnd x_3.fst x_3.snd.toNat (brD x).toNat) = false → inRange IntKind.i64 ((↑g : Int) + (1 : Int)) ∧ ∃ (g' : Nat), g' ≤ b.nd ∧ b.nd - g' < b.nd - g ∧ True ∧ ((True ∧ (↑g : Int) + (1 : Int) = (↑g' : Int)) ∧ True) ∧ True)))))) ∧ (decide (clear x_2.fst x_2.snd.toNat g < b.due g) = false → inRange IntKind.i64 ((↑g : Int) + (1 : Int)) ∧ ∃ (g' : Nat), g' ≤ b.nd ∧ b.nd - g' < b.nd - g ∧ True ∧ ((True ∧ (↑g : Int) + (1 : Int) = (↑g' : Int)) ∧ True) ∧ True))) ∧ (decide ((↑g : Int) < (↑(opn x_2.fst x_2.snd).nd : Int)) = false → ((brE x == (0 : Int)) = true → (((↑g_1 : Int) == brS x) = true → (0 : Int) ≤ brD x ∧ brD x < (↑(opn x_3.fst x_3.snd).nd : Int) ∧ ((rnd x_3.fst x_3.snd.toNat (brD x).toNat == (0 : Int)) = true → True ∧ true = false) ∧ ((rnd x_3.fst x_3.snd.toNat (brD x).toNat == (0 : Int)) = false → inRange IntKind.i64 ((↑g_1 : Int) + (1 : Int)) ∧ ∃ (g' : Nat), g' ≤ b.ns ∧ b.ns - g' < b.ns - g_1 ∧ True ∧ ((True ∧ (↑g_1 : Int) + (1 : Int) = (↑g' : Int)) ∧ True) ∧ True)) ∧ (((↑g_1 : Int) == brS x) = false → inRange IntKind.i64 ((↑g_1 : Int) + (1 : Int)) ∧ ∃ (g' : Nat), g' ≤ b.ns ∧ b.ns - g' < b.ns - g_1 ∧ True ∧ ((True ∧ (↑g_1 : Int) + (1 : Int) = (↑g' : Int)) ∧ True) ∧ True)) ∧ ((brE x == (0 : Int)) = false → inRange IntKind.i64 ((↑g_1 : Int) + (1 : Int)) ∧ ∃ (g' : Nat), g' ≤ b.ns ∧ b.ns - g' < b.ns - g_1 ∧ True ∧ ((True ∧ (↑g_1 : Int) + (1 : Int) = (↑g' : Int)) ∧ True) ∧ True))))))) ∧ (decide ((↑g_1 : Int) ≤ (↑g : Int)) = false → ∃ (x : Unit), True ∧ True ∧ True ∧ true = true))) (by kernel_rfl) ?_
  simp only [true_and, and_true, inR, Prod.exists, Prod.forall, and_assoc, exists_and_left, exists_eq_left', exists_eq_left, forall_eq, exists_const, forall_const, loopN, loopM, fa2, fas, fas2, dup1, dup2, dup3, dup4, ite_true, exhs, exhn, exhz, exho, exs1, exn1, exz1, exo1, exs2, exn2, exz2, exo2, exs3, exn3, exz3, exo3, exs4, exn4, exz4, exo4, exs5, exn5, exz5, exo5, exs6, exn6, exz6, exo6, exs7, exn7, exz7, exo7, exs8, exn8, exz8, exo8, exs9, exn9, exz9, exo9, ex1, ex2, ex3, ex4, ex5, beqI, bneI, decide_true, Bool.true_and, decide_eq_true_eq, decide_eq_false_iff_not, ne_eq, Decidable.not_not]
  have hw : b.wf := h
  refine ⟨b, bk b ⟨hw, b, bk b ⟨hw, fun hc => ?_, fun hc => ?_⟩⟩⟩
  · rw [Bool.not_eq_true'] at hc
    have he : ¬ errOf b = 0 := fun e => by
      have := err_zero.1 e
      rw [hc] at this; cases this
    obtain ⟨e1, e2, e3⟩ := br_bad he
    exact ⟨fun _ => ⟨fun _ => ⟨fun _ => trivial, fun h => absurd e2 h⟩, fun h => absurd e1 h⟩, fun h => absurd (e3.symm.trans h) he⟩
  rw [Bool.not_eq_false'] at hc
  have g := good hc
  have h1 := g.nd; have h2 := g.ns; have h3 := g.ns1
  have spec := br_spec hc
  refine ⟨by omega, by omega, fun h0 => ?_, fun h0 => ?_, fun L hL => ⟨by omega, fun K hK => ⟨fun hKL => ?_, fun _ => trivial⟩⟩⟩
  · rcases spec with ⟨y1, S, D, y2, y3, y4, y5, y6, y7⟩ | ⟨y1, _⟩
    · have w1 : within (brS b) 0 (b.ns - 1) = true := Cm.within_iff.2 ⟨by omega, by omega⟩
      have w2 : within (brD b) 0 (b.nd - 1) = true := Cm.within_iff.2 ⟨by omega, by omega⟩
      exact ⟨by omega, by omega, fun h => no_not w1 h, fun _ => ⟨by omega, by omega, fun h => no_not w2 h, fun _ => ⟨S, .inl ⟨h0, y2⟩, y2⟩⟩⟩
    · omega
  · rcases spec with ⟨y1, _⟩ | ⟨y1, y2, y3, y4⟩
    · exact absurd y1 h0
    · exact ⟨fun h => absurd y1 h, fun _ => ⟨fun h => absurd y2 h, fun _ => ⟨fun h => absurd y3 h, fun _ => ⟨b.ns - 1, .inr ⟨y1, by omega⟩, by omega⟩⟩⟩⟩
  have hKn : K < b.ns := by
    rcases spec with ⟨y1, S, D, y2, y3, y4, y5, y6, y7⟩ | ⟨y1, _⟩
    · rcases hL with hL | hL
      · omega
      · omega
    · rcases hL with hL | hL
      · omega
      · omega
  have ha : askE b (K : Int) = 0 := (askE_in (err_zero.2 hc) (Cm.within_iff.2 ⟨by omega, by omega⟩)).1
  have hoK : opn b (K : Int) = b := if_pos ha
  have hbr : ∀ i, i < b.nd → (clear b K i < b.due i ↔ 0 < rnd b K i) := fun i hi => by
    have k1 := rnd_iff (s := K) g hi
    have k2 := (rnd_bd g (s := K) (i := i)).1
    have k3 := pays_clear g (s := K) i hi
    constructor
    · intro h
      apply Classical.byContradiction
      intro hn
      have := k1.1 (by omega)
      omega
    · intro h
      apply Classical.byContradiction
      intro hn
      have := k1.2 (by omega)
      omega
  refine ⟨b, bk b ⟨hw, b, bk b ⟨hw, fun h => absurd ha h, fun _ => ⟨fun h => absurd ha h, fun _ => ?_⟩⟩⟩⟩
  rw [hoK]
  simp only [Int.toNat_natCast]
  refine ⟨fun h => absurd trivial h, fun _ => ⟨fun h => absurd trivial h, fun _ => ⟨by omega, fun i hi => ⟨fun hlt => ?_, fun hge => ?_⟩⟩⟩⟩
  · have hi2 : i < b.nd := by omega
    have hd : decide (clear b K i < b.due i) = decide (0 < rnd b K i) := by simp only [hbr i hi2]
    have more : -9223372036854775808 ≤ (i : Int) + 1 ∧ (i : Int) + 1 ≤ 9223372036854775807 ∧ i + 1 ≤ b.nd ∧ b.nd - (i + 1) < b.nd - i := ⟨by omega, by omega, by omega, by omega⟩
    refine ⟨by omega, by omega, by omega, by omega, by omega, by omega, fun h => ?_, fun _ => ⟨fun hcl => ?_, fun _ => more⟩⟩
    · rw [hd] at h
      generalize decide (0 < rnd b K i) = t at h
      cases t <;> simp at h
    · have hpos := (hbr i hi2).1 hcl
      rcases spec with ⟨y1, S, D, y2, y3, y4, y5, y6, y7⟩ | ⟨y1, y2, y3, y4⟩
      · have hKS : K = S := by
          apply Classical.byContradiction
          intro hne
          have hKS : K < S := by
            rcases hL with hL | hL
            · omega
            · omega
          exact worst_spec.1 (y7 K hKS) i hi2 hpos
        subst hKS
        obtain ⟨z1, z2⟩ := worst_spec.2 (by omega : 0 ≤ worst b K b.nd)
        rw [y6, Int.toNat_natCast] at z1 z2
        obtain ⟨z3, z4⟩ := z2 i hi2 hpos
        rw [y2, y4]
        simp only [Int.toNat_natCast]
        exact ⟨fun h => absurd y1 h, fun _ => ⟨fun h => absurd h (by omega), fun _ => ⟨by omega, by omega, fun h => absurd h (by omega), fun _ => ⟨by omega, by omega, by omega, by omega, fun h => absurd h (by omega), fun _ => ⟨by omega, by omega, by omega, by omega, fun heq => ⟨fun h => absurd h (by have := z4 heq; omega), fun _ => more⟩, fun _ => more⟩⟩⟩⟩⟩
      · exact absurd hpos (worst_spec.1 (y4 K hKn) i hi2)
  · have more : -9223372036854775808 ≤ (K : Int) + 1 ∧ (K : Int) + 1 ≤ 9223372036854775807 ∧ K + 1 ≤ b.ns ∧ b.ns - (K + 1) < b.ns - K := ⟨by omega, by omega, by omega, by omega⟩
    refine ⟨fun h0 => ⟨fun hKS => ?_, fun _ => more⟩, fun _ => more⟩
    rcases spec with ⟨y1, S, D, y2, y3, y4, y5, y6, y7⟩ | ⟨y1, y2, y3, y4⟩
    · obtain rfl : K = S := by omega
      obtain ⟨z1, z2⟩ := worst_spec.2 (by omega : 0 ≤ worst b K b.nd)
      rw [y6, Int.toNat_natCast] at z1
      rw [y4]
      simp only [Int.toNat_natCast]
      exact ⟨by omega, by omega, fun h => absurd h (by omega), fun _ => more⟩
    · omega
end Go.Proofs.YthofpbnbjkdpaaaDoor
