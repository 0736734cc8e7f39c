/- Texts for the law of the last part, part 12. -/
import Derived.Test.YtpigkgoooekcgaaTopEqualsP11
import Derived.ChangeArms
import Derived.ChangeShapes
import Derived.OpenShut
import Derived.Carry
import Derived.Handed
import Derived.LaidMore
import Derived.ProofKit
import Derived.SizedLaws
set_option linter.unusedSimpArgs false
set_option linter.unusedVariables false
namespace Go.Proofs.Ytpigkgoooekcgaa
open Go Go.Sx Bm
set_option maxRecDepth 100000
set_option maxHeartbeats 4000000
structure EqIn where
 s : Int
 r : Int
 m : Int
def eqN (x : EqIn) : Nat := (1 + x.m % 8).toNat
def eqR (x : EqIn) : Int := x.r % 100000 + 1
def eqQ (x : EqIn) : Int := x.s % ((eqN x : Int) * eqR x + 1)
def eqW (x : EqIn) : Int := 1 + x.m % 7
def sEq : Sig := ⟨EqIn, fun x => [intC x.s, intC x.r, intC x.m], fun _ => True, fun _ => [.v (.c (.bool true))]⟩
def aEq1 (x : EqIn) : Ann := { G := Nat, ok := fun _ i => i ≤ eqN x, dom := fun st => [osN (st.tm 8), st.nx, st.nx + 1], tm := fun st i => [(10, .t (intC i)), (9, .t (.c (.os (st.nx + 1) 2 i)))], hp := fun st i => [(osN (st.tm 8), .self, some (.box 2 (ofList [.int .i64 (eqQ x), .os st.nx 1 i]))), (st.nx, .box (osN (st.tm 8)) 1, some (.row 3 1 i (fun _ _ => .int .i64 (eqR x)))), (st.nx + 1, .slot 9, some (.row 69 2 i (fun j => stkC nm (fun _ => eqW x) j)))], mu := fun _ i => eqN x - i }
def aEq2 (x : EqIn) : Ann := { G := Nat, ok := fun _ i => 1 ≤ i ∧ i ≤ eqN x, dom := fun _ => [], tm := fun _ i => [(15, .t (intC i))], hp := fun _ _ => [], mu := fun _ i => eqN x - i }
def TSK0 : List (Nat × Sig) := (25, sTen) :: (20, sTxt) :: (9, sMod) :: TSJ1
theorem TSK0_ok : SigsOk Try.prog E0 TSK0 := ((TSJ1_ok.cons (runs 9 (by kernel_rfl)) q9).cons (runs 20 (by kernel_rfl)) q20).cons (runs 25 (by kernel_rfl)) fun x _ => q25 x
theorem nm_nms {n : Nat} (h : n ≤ 8) : Nms n nm := by
 have a : ∀ i, i < 8 → ((nm i).toList == (⟨#[]⟩ : ByteArray).toList) = false := by decide +kernel
 have b : ∀ i, i < 8 → ∀ j, j < 8 → Lib.compareBytes (nm i).data.toList (nm j).data.toList = if i < j then -1 else if i = j then 0 else 1 := by decide +kernel
 exact ⟨fun i hi => nm_ok (by omega), fun i hi => a i (by omega), fun i hi j hj => nm_ne i (by omega) j (by omega), fun i hi j hj => b i (by omega) j (by omega)⟩
def eqD (n : Nat) (q W : Int) : DvIn := ⟨n, nm, fun _ => W, q, (q % n) * W⟩
theorem eqD_S {n : Nat} {q W : Int} : dvS (eqD n q W) = n * W := sm_const (a := W) (n := n)
theorem eqD_ok {n : Nat} {q W : Int} (n1 : 1 ≤ n) (n8 : n ≤ 8) (w0 : 1 ≤ W) (w1 : W ≤ 7) (q0 : 0 ≤ q) (q1 : q ≤ 800000) : (eqD n q W).ok := by
 refine ⟨n1, n8, nm_nms n8, fun i _ => ⟨?_, ?_⟩, q0, ?_, ?_, fun i _ => ?_⟩
 · show 0 ≤ W; omega
 · show W ≤ 1000; omega
 · show q ≤ 10000000; omega
 · rw [eqD_S]; exact Int.mul_pos (by omega) (by omega)
 · rw [eqD_S]
   show q * W % (n * W) = q % n * W
   rw [Int.mul_comm q, Int.mul_comm (n : Int), Int.mul_emod_mul_of_pos _ _ (by omega), Int.mul_comm]
theorem eqD_O {n : Nat} {q W : Int} (n1 : 1 ≤ n) (w0 : 1 ≤ W) (i : Nat) : dvO (eqD n q W) i = eqI n q i := by
 have hm := Int.mul_ediv_add_emod q n
 have hG : dvG (eqD n q W) = fun _ => q / n := by
   funext j
   unfold dvG
   rw [eqD_S]
   exact Int.mul_ediv_mul_of_pos_left _ _ (show 0 < W by omega)
 have hL : dvL (eqD n q W) = q % n := by
   unfold dvL
   rw [hG]
   have e : sm (fun _ => q / (n : Int)) (eqD n q W).n = n * (q / n) := sm_const
   rw [e]
   show q - n * (q / n) = q % n
   omega
 unfold dvO eqI
 rw [hG, hL]
theorem same_refl (n : Nat) (f : Nat → Int) : sameB n f n f = true := by
 have h : ∀ k, allB k (fun i => decide (f i = f i)) = true := fun k => by
   induction k with
   | zero => rfl
   | succ k ih => show (_ && _) = true; rw [ih]; simp
 unfold sameB
 rw [h]; simp
theorem q5 (x : sEq.α) : CallQ Try.prog E0 5 (sEq.arg x) (sEq.res x) := by
 refine bare_say E0_ok TSK0 TSK0_ok [] EvensOk.nil runs { l := [(5, 6, aEq1 x), (5, 15, aEq2 x)] } (fuel := 5) ?_
 refine of_red (q := ∃ (x_1 : Int × Int), ((True∧x.m = x_1.fst)∧(True∧(8 : Int) = x_1.snd)∧True)∧((0 : Int) < x_1.snd∧x_1.snd≤(4611686018427387904 : Int))∧inRange IntKind.i64 ((1 : Int) + x_1.fst % x_1.snd)∧∃ (x_2 : Int × Int), ((True∧x.r = x_2.fst)∧(True∧(100000 : Int) = x_2.snd)∧True)∧((0 : Int) < x_2.snd∧x_2.snd≤(4611686018427387904 : Int))∧inRange IntKind.i64 (x_2.fst % x_2.snd + (1 : Int))∧inRange IntKind.i64 (((1 : Int) + x_1.fst % x_1.snd) * (x_2.fst % x_2.snd + (1 : Int)))∧inRange IntKind.i64 (((1 : Int) + x_1.fst % x_1.snd) * (x_2.fst % x_2.snd + (1 : Int)) + (1 : Int))∧∃ (x_3 : Int × Int), ((True∧x.s = x_3.fst)∧(True∧((1 : Int) + x_1.fst % x_1.snd) * (x_2.fst % x_2.snd + (1 : Int)) + (1 : Int) = x_3.snd)∧True)∧((0 : Int) < x_3.snd∧x_3.snd≤(4611686018427387904 : Int))∧(∃ (g : Nat), g≤eqN x∧True∧((True∧(0 : Int) = (↑g : Int))∧(True∧g = (0 : Nat))∧True)∧(True∧(True∧True∧x_3.fst % x_3.snd = eqQ x)∧True∧g = (0 : Nat))∧g = (0 : Nat)∧g = (0 : Nat)∧True)∧∀ (g : Nat), g≤eqN x→(decide ((↑g : Int) < (1 : Int) + x_1.fst % x_1.snd) = true→(g + (1 : Nat)) * (8 : Nat)≤(140737488355328 : Nat)∧g + (1 : Nat) < (4611686018427387904 : Nat)∧∃ (x_4 : Nat), ((True∧(↑g : Int) = (↑x_4 : Int))∧True)∧x_4≤(9 : Nat)∧(↑((ByteArray.mk #[(110 : UInt8)]).size + (dig x_4).size) : Int)≤(9223372036854775807 : Int)∧∃ (x_5 : Int × Int), ((True∧x.m = x_5.fst)∧(True∧(7 : Int) = x_5.snd)∧True)∧((0 : Int) < x_5.snd∧x_5.snd≤(4611686018427387904 : Int))∧inRange IntKind.i64 ((1 : Int) + x_5.fst % x_5.snd)∧(g + (1 : Nat)) * (24 : Nat)≤(140737488355328 : Nat)∧g + (1 : Nat) < (4611686018427387904 : Nat)∧inRange IntKind.i64 ((↑g : Int) + (1 : Int))∧∃ (g' : Nat), g'≤eqN x∧eqN x - g' < eqN x - g∧True∧((True∧(↑g : Int) + (1 : Int) = (↑g' : Int))∧(True∧True∧g + (1 : Nat) = g')∧True)∧(True∧(True∧True∧eqQ x = eqQ x)∧True∧True∧g + (1 : Nat) = g')∧(True∧True∧g + (1 : Nat) = g'∧∀ (i : Nat), i < g + (1 : Nat)→True∧(if i < g then eqR x else if i - g = (0 : Nat) then x_2.fst % x_2.snd + (1 : Int) else (0 : Int)) = eqR x)∧(True∧True∧g + (1 : Nat) = g'∧∀ (i : Nat), i < g + (1 : Nat)→(True∧fitP (if i < g then stkC nm (fun (x_6 : Nat) => eqW x) i 0 else if i - g = (0 : Nat) then ((2 : Nat), fun (j : Nat) => if j = nat_lit 0 + (1 : Nat) then ((1 : Nat), fun (x : Nat) => CV.int IntKind.i64 ((1 : Int) + x_5.fst % x_5.snd)).snd (0 : Nat) else if j < (0 : Nat) + ((1 : Nat), fun (x : Nat) => CV.str (ByteArray.mk #[(110 : UInt8)] ++ dig x_4)).fst then ((1 : Nat), fun (x : Nat) => CV.str (ByteArray.mk #[(110 : UInt8)] ++ dig x_4)).snd (j - (0 : Nat)) else [CV.str (ByteArray.mk #[]), CV.int IntKind.i64 (0 : Int)].getD j CV.any).snd 0 else [CV.str (ByteArray.mk #[]), CV.int IntKind.i64 (0 : Int)].getD 0 CV.any) (stkC nm (fun (x_6 : Nat) => eqW x) i 0))∧(if i < g then eqW x else if i - g = (0 : Nat) then (1 : Int) + x_5.fst % x_5.snd else (0 : Int)) = eqW x)∧True)∧(decide ((↑g : Int) < (1 : Int) + x_1.fst % x_1.snd) = false→∃ (x_4 : ClIn), ((True∧(True∧True∧eqQ x = x_4.q)∧True∧True∧g = x_4.n∧∀ (i : Nat), i < g→True∧eqR x = x_4.f i)∧True)∧x_4.ok∧(∀ (i : Nat), i < x_4.n→True)∧∃ (x_5 : DvIn), ((True∧eqQ x = x_5.all)∧(True∧True∧g = x_5.n∧∀ (i : Nat), i < g→(True∧nm i = x_5.nf i)∧eqW x = x_5.W i)∧True)∧x_5.ok∧(((0 : Int) != (0 : Int)) = true→True∧true = false)∧(((0 : Int) != (0 : Int)) = false→(((0 : Int) != (0 : Int)) = true→True∧true = false)∧(((0 : Int) != (0 : Int)) = false→∃ (x_6 : TwoL), ((True∧True∧x_4.n = x_6.n∧∀ (i : Nat), i < x_4.n→True∧shI x_4.n x_4.f x_4.q i = x_6.f i)∧(True∧True∧x_5.n = x_6.m∧∀ (i : Nat), i < x_5.n→True∧dvO x_5 i = x_6.g i)∧True)∧(x_6.n < (4611686018427387904 : Nat)∧x_6.m < (4611686018427387904 : Nat))∧((!sameB x_6.n x_6.f x_6.m x_6.g) = true→True∧true = false)∧((!sameB x_6.n x_6.f x_6.m x_6.g) = false→∃ (x_7 : Nat × (Nat→Int)), ((True∧True∧x_4.n = x_7.fst∧∀ (i : Nat), i < x_4.n→True∧shI x_4.n x_4.f x_4.q i = x_7.snd i)∧True)∧(x_7.fst≤(10 : Nat)∧∀ (i : Nat), i < x_7.fst→(0 : Int)≤x_7.snd i∧x_7.snd i≤(10000000 : Int))∧((sm x_7.snd x_7.fst != eqQ x) = true→True∧true = false)∧((sm x_7.snd x_7.fst != eqQ x) = false→(((↑x_4.n : Int) != (1 : Int) + x_1.fst % x_1.snd) = true→True∧true = false)∧(((↑x_4.n : Int) != (1 : Int) + x_1.fst % x_1.snd) = false→(∃ (g : Nat), ((1 : Nat)≤g∧g≤eqN x)∧True∧((True∧(1 : Int) = (↑g : Int))∧True)∧True)∧∀ (g : Nat), (1 : Nat)≤g∧g≤eqN x→(decide ((↑g : Int) < (1 : Int) + x_1.fst % x_1.snd) = true→(0 : Int)≤(↑g : Int)∧(↑g : Int) < (↑x_4.n : Int)∧inRange IntKind.i64 ((↑g : Int) - (1 : Int))∧(0 : Int)≤(↑g : Int) - (1 : Int)∧(↑g : Int) - (1 : Int) < (↑x_4.n : Int)∧(decide (shI x_4.n x_4.f x_4.q ((↑g : Int) - (1 : Int)).toNat < shI x_4.n x_4.f x_4.q g) = true→True∧true = false)∧(decide (shI x_4.n x_4.f x_4.q ((↑g : Int) - (1 : Int)).toNat < shI x_4.n x_4.f x_4.q g) = false→(0 : Int)≤(↑g : Int)∧(↑g : Int) < (↑x_4.n : Int)∧(0 : Int)≤(0 : Int)∧(0 : Int) < (↑x_4.n : Int)∧inRange IntKind.i64 (shI x_4.n x_4.f x_4.q (0 : Nat) - (1 : Int))∧(decide (shI x_4.n x_4.f x_4.q g < shI x_4.n x_4.f x_4.q (0 : Nat) - (1 : Int)) = true→True∧true = false)∧(decide (shI x_4.n x_4.f x_4.q g < shI x_4.n x_4.f x_4.q (0 : Nat) - (1 : Int)) = false→inRange IntKind.i64 ((↑g : Int) + (1 : Int))∧∃ (g' : Nat), ((1 : Nat)≤g'∧g'≤eqN x)∧eqN x - g' < eqN x - g∧True∧((True∧(↑g : Int) + (1 : Int) = (↑g' : Int))∧True)∧True)))∧(decide ((↑g : Int) < (1 : Int) + x_1.fst % x_1.snd) = false→∃ (x : Unit), True∧True∧True∧true = true)))))))) (by kernel_rfl) ?_
 simp only [true_and, and_true, inR, Prod.exists, Prod.forall, and_assoc, exists_and_left, exists_eq_left', exists_eq_left, forall_eq, exists_const, forall_const, loopN, loopM, fa2, fas, fas2, dup1, dup2, dup3, dup4, ite_true, exhs, exhn, exhz, exho, exA, ex1, ex2, ex3, ex4, ex5, beqI, bneI, decide_true, Bool.true_and, decide_eq_true_eq, decide_eq_false_iff_not, ne_eq, Decidable.not_not]
 have hN : (eqN x : Int) = 1 + x.m % 8 := by unfold eqN; omega
 have hN1 : 1 ≤ eqN x := by omega
 have hN8 : eqN x ≤ 8 := by omega
 have hR : eqR x = x.r % 100000 + 1 := rfl
 have hW : eqW x = 1 + x.m % 7 := rfl
 have hp0 : 0 ≤ (eqN x : Int) * eqR x := Int.mul_nonneg (by omega) (by omega)
 have hp1 : (eqN x : Int) * eqR x ≤ 8 * 100000 := Int.mul_le_mul (by omega) (by omega) (by omega) (by decide)
 have hQ0 : 0 ≤ eqQ x := Int.emod_nonneg _ (by omega)
 have hQ1 : eqQ x ≤ (eqN x : Int) * eqR x := by
   have := Int.emod_lt_of_pos x.s (show 0 < (eqN x : Int) * eqR x + 1 by omega)
   show x.s % ((eqN x : Int) * eqR x + 1) ≤ _
   omega
 have hQ : x.s % ((eqN x : Int) * eqR x + 1) = eqQ x := rfl
 rw [← hN, ← hR, ← hW, hQ]
 refine ⟨by decide, by decide, by omega, by omega, by decide, by decide, by omega, by omega, by omega, by omega, by omega, by omega, by omega, by omega, ⟨0, Nat.zero_le _, rfl, rfl, rfl, rfl, rfl, rfl⟩, fun g hg => ⟨fun hlt => ?_, fun hge => ?_⟩⟩
 · have hs := nm_size g (by omega)
   have ha : (nm g).size = (⟨#[110]⟩ : ByteArray).size + (dig g).size := ByteArray.size_append
   refine ⟨by omega, by omega, by omega, by omega, by decide, by decide, by omega, by omega, by omega, by omega, by omega, by omega, g + 1, by omega, by omega, by omega, rfl, rfl, rfl, fun i hi => ?_, rfl, fun i hi => ?_⟩
   · by_cases c : i < g
     · rw [if_pos c]
     · rw [if_neg c, if_pos (by omega)]
   · by_cases c : i < g
     · simp only [if_pos c]
       refine ⟨rfl, ?_⟩ <;> first | trivial | rfl
     · obtain rfl : i = g := by omega
       simp only [Nat.lt_irrefl, if_false, Nat.sub_self, if_true]
       refine ⟨rfl, ?_⟩ <;> first | trivial | rfl
 · obtain rfl : g = eqN x := by omega
   have hA := sh_eq (q := eqQ x) (r := eqR x) hN1 hN8 (by omega) (by omega) hQ0 hQ1
   have hB := eqD_O (q := eqQ x) (W := eqW x) hN1 (by omega)
   have hd0 := Int.ediv_nonneg hQ0 (show (0 : Int) ≤ eqN x by omega)
   have hd1 := Int.ediv_le_self (eqN x : Int) hQ0
   have hI : ∀ i, i < eqN x → 0 ≤ eqI (eqN x) (eqQ x) i ∧ eqI (eqN x) (eqQ x) i ≤ 10000000 := fun i hi => by
     unfold eqI; split <;> omega
   refine ⟨⟨eqN x, fun _ => eqR x, eqQ x⟩, rfl, rfl, fun _ _ => rfl, ⟨hN1, hN8, fun _ _ => ⟨by show 0 ≤ eqR x; omega, by show eqR x ≤ 100000; omega⟩, hQ0, by rw [show sm (fun _ => eqR x) (eqN x) = eqN x * eqR x from sm_const]; exact hQ1⟩, fun _ _ => trivial, eqD (eqN x) (eqQ x) (eqW x), rfl, rfl, fun _ _ => ⟨rfl, rfl⟩, eqD_ok hN1 hN8 (by omega) (by omega) hQ0 (by omega), fun h => absurd trivial h, fun h => absurd trivial h, ⟨eqN x, eqI (eqN x) (eqQ x), eqN x, eqI (eqN x) (eqQ x)⟩, rfl, hA, rfl, fun i _ => hB i, by show eqN x < _; omega, by show eqN x < _; omega, fun h => ?_, fun _ => ⟨eqI (eqN x) (eqQ x), hA, by show eqN x ≤ 10; omega, hI, fun h => absurd (sm_eqI hN1 hQ0) h, fun _ => ?_⟩⟩
   · rw [same_refl] at h; cases h
   · refine ⟨fun h => absurd rfl h, fun _ => ⟨Nat.le_refl _, hN1, fun g hg => ⟨fun hlt => ?_, fun _ => trivial⟩⟩⟩
     have e : ((g : Int) - 1).toNat = g - 1 := by omega
     rw [e]
     dsimp only
     rw [hA (g - 1) (by omega), hA g (by omega), hA 0 (by omega)]
     have i1 : eqI (eqN x) (eqQ x) g ≤ eqI (eqN x) (eqQ x) (g - 1) := by
       unfold eqI; split <;> split <;> omega
     have i2 : eqI (eqN x) (eqQ x) 0 - 1 ≤ eqI (eqN x) (eqQ x) g := by
       unfold eqI; split <;> split <;> omega
     have i3 := hI 0 (by omega)
     exact ⟨by omega, by omega, by omega, by omega, by omega, by omega, fun h => by omega, fun _ => ⟨by omega, by omega, by omega, by omega, by omega, by omega, fun h => by omega, fun _ => ⟨by omega, by omega, by omega, by omega, by omega⟩⟩⟩
end Go.Proofs.Ytpigkgoooekcgaa
namespace Go.Sx
def shapeB (E : Env) : Nat → Nat → Bool
 | 0, _ => false
 | n + 1, t => match E.ty t with
   | some ti => match ti.kind with
     | .bool => true
     | .int _ => true
     | .str => true
     | .slice e => match E.ty e with
       | some te => Nat.ble 1 te.size && shapeB E n e
       | none => false
     | .struct fs => fields E (shapeB E n) 0 ti.size fs
     | .array m e => match E.ty e with
       | some te => Nat.beq (m * te.size) ti.size && Nat.ble 1 te.size && shapeB E n e
       | none => false
     | _ => false
   | none => false
where
 fields (E : Env) (p : Nat → Bool) (o size : Nat) : List (Nat × TypeId) → Bool
   | [] => Nat.beq o size
   | (fo, ft) :: fs => match E.ty ft with
     | some tf => Nat.beq fo o && p ft && fields E p (o + tf.size) size fs
     | none => false
def ShpK (K : Nat) (E : Env) : Nat → Nat → (Nat → CV) → Prop
 | 0, _, _ => False
 | n + 1, t, get => match E.ty t with
   | some ti => match ti.kind with
     | .bool => ∃ b, get 0 = .bool b
     | .int k => ∃ a, get 0 = .int k a ∧ inRange k a
     | .str => ∃ s : ByteArray, get 0 = .str s ∧ s.size ≤ K
     | .slice e => match E.ty e with
       | some te => ∃ len g, get 0 = .vs te.size len g ∧ len * te.bytes ≤ K ∧ ∀ i, i < len → ShpK K E n e (g i)
       | none => False
     | .struct fs => AllF (fun x => ShpK K E n x.2 (fun j => get (x.1 + j))) fs
     | .array m e => match E.ty e with
       | some te => ∀ i, i < m → ShpK K E n e (fun j => get (i * te.size + j))
       | none => False
     | _ => False
   | none => False
where
 AllF (p : Nat × TypeId → Prop) : List (Nat × TypeId) → Prop
   | [] => True
   | x :: l => p x ∧ AllF p l
abbrev Shp (E : Env) : Nat → Nat → (Nat → CV) → Prop := ShpK reachBytes E
theorem ShpK.AllF_congr {p q : Nat × TypeId → Prop} : ∀ {l : List (Nat × TypeId)}, (∀ x ∈ l, p x → q x) → ShpK.AllF p l → ShpK.AllF q l
 | [], _, _ => trivial
 | x :: _, h, h' => ⟨h x (by simp) h'.1, ShpK.AllF_congr (fun y hy => h y (by simp [hy])) h'.2⟩
section
variable {P : Program} {E : Env} {K : Nat}
theorem fields_mem {p : Nat → Bool} : ∀ {fs : List (Nat × TypeId)} {o size : Nat}, shapeB.fields E p o size fs = true → o ≤ size ∧ ∀ x ∈ fs, ∃ tf, E.ty x.2 = some tf ∧ p x.2 = true ∧ o ≤ x.1 ∧ x.1 + tf.size ≤ size
 | [], o, size, h => by
   obtain rfl := Nat.eq_of_beq_eq_true h
   exact ⟨Nat.le_refl _, fun x hx => by simp at hx⟩
 | (fo, ft) :: fs, o, size, h => by
   simp only [shapeB.fields] at h
   split at h
   · rename_i tf htf
     simp only [Bool.and_eq_true] at h
     obtain ⟨⟨h1, h2⟩, h3⟩ := h
     obtain rfl := Nat.eq_of_beq_eq_true h1
     obtain ⟨h4, h5⟩ := fields_mem h3
     refine ⟨by omega, fun x hx => ?_⟩
     rcases List.mem_cons.1 hx with rfl | hx
     · exact ⟨tf, htf, h2, Nat.le_refl _, h4⟩
     · obtain ⟨tg, a1, a2, a3, a4⟩ := h5 x hx
       exact ⟨tg, a1, a2, by omega, a4⟩
   · cases h
theorem ShpK.congr (hT : TabOk P E) : ∀ {n t : Nat} {ti : TI} {g g' : Nat → CV}, E.ty t = some ti → shapeB E n t = true → (∀ j, j < ti.size → g j = g' j) → ShpK K E n t g → ShpK K E n t g'
 | 0, _, _, _, _, _, h, _, _ => by simp [shapeB] at h
 | n + 1, t, ti, g, g', ht, hs, he, h => by
   obtain ⟨hF, _⟩ := hT t ti ht
   obtain ⟨i, d, z, hF⟩ := tabTI_spec hF
   simp only [shapeB, ht] at hs
   simp only [ShpK, ht] at h ⊢
   have one : ti.kind.isAgg = false → g 0 = g' 0 := fun hk => he 0 (by have := hF.one hk; omega)
   cases hk : ti.kind with
   | bool => rw [hk] at h; simp only at h ⊢; rw [← one (by rw [hk]; rfl)]; exact h
   | int k => rw [hk] at h; simp only at h ⊢; rw [← one (by rw [hk]; rfl)]; exact h
   | str => rw [hk] at h; simp only at h ⊢; rw [← one (by rw [hk]; rfl)]; exact h
   | slice e => rw [hk] at h; simp only at h ⊢; rw [← one (by rw [hk]; rfl)]; exact h
   | struct fs =>
     rw [hk] at h hs
     simp only at h hs ⊢
     refine ShpK.AllF_congr (fun x hx hp => ?_) h
     obtain ⟨tf, h1, h2, h3, h4⟩ := (fields_mem hs).2 x hx
     exact ShpK.congr hT h1 h2 (fun j hj => he _ (by omega)) hp
   | array m e =>
     rw [hk] at h hs
     simp only at h hs ⊢
     cases hte : E.ty e with
     | none => rw [hte] at h; exact h.elim
     | some te =>
       rw [hte] at h hs
       simp only [Bool.and_eq_true] at h hs ⊢
       have hsz := Nat.eq_of_beq_eq_true hs.1.1
       intro i hi
       refine ShpK.congr hT hte hs.2 (fun j hj => he _ ?_) (h i hi)
       rw [← hsz]
       have : (i + 1) * te.size ≤ m * te.size := Nat.mul_le_mul_right _ hi
       rw [Nat.add_mul, Nat.one_mul] at this
       omega
   | ptr => rw [hk] at hs; cases hs
   | map k v => rw [hk] at hs; cases hs
   | func => rw [hk] at hs; cases hs
   | other => rw [hk] at hs; cases hs
variable {H : Type} {enc : TypeId × Value → H} {w : World} {held : Bool}
theorem add_none (b o i : Nat) : (⟨b, o, none⟩ : Addr).add i = ⟨b, o + i, none⟩ := by
 unfold Addr.add
 split
 · rename_i h; subst h; rfl
 · rfl
theorem weightsAll_mem {e : TypeId} : ∀ {l : List (DataW H)} {d : DataW H}, d ∈ l → ∀ x ∈ d.weights P e, x ∈ DataW.weightsAll P e l
 | [], _, h, _, _ => by cases h
 | y :: l, d, h, x, hx => by
   simp only [DataW.weightsAll, List.mem_append]
   rcases List.mem_cons.1 h with rfl | h
   · exact .inl hx
   · exact .inr (weightsAll_mem h x hx)
theorem fields_shape {n : Nat} {cs : List Value} {w : World} (ih : ∀ {t : Nat} {ti : TI} {fuel : Nat} {cs : List Value} {x : DataW H × List MemPlace}, E.ty t = some ti → shapeB E n t = true →
     DataW.trod enc P w 0 (fun _ => true) held fuel t cs = some x → (∀ y ∈ x.1.weights P t, y ≤ K) → cs.length = ti.size ∧ ∃ get, (∀ j u, cs[j]? = some u → RP (fun b => b < w.heap.size) w (get j) u) ∧ ShpK K E n t get)
   {fuel : Nat} (hcell : ∀ t tf, E.ty t = some tf → P.cellsOf t = tf.size) : ∀ {fs : List Field} {xs : List (DataW H × List MemPlace)} {o size : Nat}, (hT : TabOk P E) → shapeB.fields E (shapeB E n) o size (fs.map fun f => (f.offset, f.type)) = true →
     xs.length = fs.length → (∀ (i : Nat) (f : Field), fs[i]? = some f → DataW.trod enc P w 0 (fun _ => true) held fuel f.type ((cs.drop f.offset).take (P.cellsOf f.type)) = xs[i]?) →
     (∀ y ∈ DataW.weightsEach P (fs.map (·.type)) (xs.map (·.1)), y ≤ K) → cs.length = size →
     ∃ get : Nat → CV, (∀ j u, o ≤ j → cs[j]? = some u → RP (fun b => b < w.heap.size) w (get j) u) ∧ ShpK.AllF (fun x => ShpK K E n x.2 (fun j => get (x.1 + j))) (fs.map fun f => (f.offset, f.type))
 | [], xs, o, size, hT, hf, hl, ht, hw, hcs => by
   obtain rfl := Nat.eq_of_beq_eq_true hf
   refine ⟨fun _ => .any, fun j u hj hu => ?_, trivial⟩
   have := (List.getElem?_eq_some_iff.1 hu).1
   omega
 | f :: fs, [], o, size, hT, hf, hl, ht, hw, hcs => by simp at hl
 | f :: fs, x :: xs, o, size, hT, hf, hl, ht, hw, hcs => by
   simp only [List.map_cons, shapeB.fields] at hf
   split at hf
   · rename_i tf htf
     simp only [Bool.and_eq_true] at hf
     obtain ⟨⟨h1, h2⟩, h3⟩ := hf
     have h1 := Nat.eq_of_beq_eq_true h1
     subst h1
     simp only [List.map_cons, DataW.weightsEach, List.mem_append] at hw
     have h0 := ht 0 f rfl
     obtain ⟨hlen, gf, hg1, hg2⟩ := ih htf h2 (h0.trans rfl) (fun y hy => hw y (.inl hy))
     obtain ⟨gr, hr1, hr2⟩ := fields_shape ih hcell (fs := fs) (xs := xs) (o := f.offset + tf.size) hT h3 (by simpa using hl) (fun i g hi => by simpa using ht (i + 1) g (by simpa using hi)) (fun y hy => hw y (.inr hy)) hcs
     refine ⟨fun j => if j < f.offset + tf.size then gf (j - f.offset) else gr j, fun j u hj hu => ?_, ?_, ?_⟩
     · by_cases e : j < f.offset + tf.size
       · simp only [if_pos e]
         refine hg1 _ u ?_
         rw [hcell _ _ htf, List.getElem?_take_of_lt (by omega), List.getElem?_drop]
         rw [show f.offset + (j - f.offset) = j by omega]; exact hu
       · simp only [if_neg e]
         exact hr1 j u (by omega) hu
     · refine ShpK.congr hT htf h2 (fun j hj => ?_) hg2
       show gf j = if f.offset + j < f.offset + tf.size then gf (f.offset + j - f.offset) else gr (f.offset + j)
       rw [if_pos (by omega)]; congr 1; omega
     · refine ShpK.AllF_congr (fun y hy hp => ?_) hr2
       obtain ⟨ty, a1, a2, a3, a4⟩ := (fields_mem h3).2 y hy
       refine ShpK.congr hT a1 a2 (fun j hj => ?_) hp
       show gr (y.1 + j) = if y.1 + j < f.offset + tf.size then gf (y.1 + j - f.offset) else gr (y.1 + j)
       rw [if_neg (by omega)]
   · cases hf
theorem TabOk.cells (hT : TabOk P E) {t : Nat} {ti : TI} (ht : E.ty t = some ti) : P.cellsOf t = ti.size ∧ P.bytesOf t = ti.bytes := by
 obtain ⟨i, d, z, hF⟩ := tabTI_spec (hT t ti ht).1
 simp [Program.cellsOf, Program.bytesOf, hF.info, hF.size, hF.bytes]
theorem trod_shape (hT : TabOk P E) : ∀ {n t : Nat} {ti : TI} {fuel : Nat} {cs : List Value} {x : DataW H × List MemPlace}, E.ty t = some ti → shapeB E n t = true →
   DataW.trod enc P w 0 (fun _ => true) held fuel t cs = some x → (∀ y ∈ x.1.weights P t, y ≤ K) → cs.length = ti.size ∧ ∃ get, (∀ j u, cs[j]? = some u → RP (fun b => b < w.heap.size) w (get j) u) ∧ ShpK K E n t get
 | 0, _, _, _, _, _, _, h, _, _ => by simp [shapeB] at h
 | n + 1, t, ti, fuel, cs, x, ht, hs, h, hw => by
   obtain ⟨hF, hne⟩ := hT t ti ht
   obtain ⟨i, d, z, hF⟩ := tabTI_spec hF
   have hu := hF.und
   simp only [shapeB, ht] at hs
   have one : ∀ (v : Value) (y : CV), ti.kind.isAgg = false → RP (fun b => b < w.heap.size) w y v → [v].length = ti.size ∧ ∀ (j : Nat) (u : Value), [v][j]? = some u → RP (fun b => b < w.heap.size) w ((fun _ => y) j) u := fun v y hk hr => by
     refine ⟨by have := hF.one hk; simp [this], fun j u hj => ?_⟩
     cases j with
     | zero => simp at hj; subst hj; exact hr
     | succ j => simp at hj
   cases hk : ti.kind with
   | bool =>
     rw [hF.bool hk] at hu
     obtain ⟨b, rfl, rfl⟩ := DataW.trod_bool hu h
     obtain ⟨a1, a2⟩ := one (.bool b) (.bool b) (by rw [hk]; rfl) rfl
     exact ⟨a1, _, a2, by simp only [ShpK, ht, hk]; exact ⟨b, rfl⟩⟩
   | int k =>
     rw [hF.int hk] at hu
     obtain ⟨a, rfl, rfl, hwf⟩ := DataW.trod_int hu h
     obtain ⟨a1, a2⟩ := one (.int k a) (.int k a) (by rw [hk]; rfl) rfl
     refine ⟨a1, _, a2, ?_⟩
     simp only [ShpK, ht, hk]
     simp only [Lit.wf, Bool.and_eq_true, decide_eq_true_eq] at hwf
     exact ⟨a, rfl, hwf⟩
   | str =>
     rw [hF.str hk] at hu
     obtain ⟨s, rfl, rfl, hm⟩ := DataW.trod_string hu h
     obtain ⟨a1, a2⟩ := one (.string s) (.str s) (by rw [hk]; rfl) rfl
     refine ⟨a1, _, a2, ?_⟩
     simp only [ShpK, ht, hk]
     have := hw s.data.toList.length (by simp [DataW.weights])
     exact ⟨s, rfl, by simpa using this⟩
   | slice e =>
     rw [hk] at hs
     rw [hF.slice hk] at hu
     simp only at hs
     cases hte : E.ty e with
     | none => rw [hte] at hs; cases hs
     | some te =>
       rw [hte] at hs
       simp only [Bool.and_eq_true] at hs
       have hpos : 1 ≤ te.size := Nat.le_of_ble_eq_true hs.1
       obtain ⟨hc, hb⟩ := hT.cells hte
       rcases DataW.trod_slice hu h with ⟨rfl, rfl⟩ | ⟨a, len, cap, elems, rest, m, _, rfl, rfl, _, hlc, _, hlen, hel, _, _⟩
       · obtain ⟨a1, a2⟩ := one (.slice none 0 0) (.vs te.size 0 (fun _ _ => .any)) (by rw [hk]; rfl) ⟨none, 0, rfl, Nat.le_refl _, fun hh => absurd hh (Nat.lt_irrefl 0)⟩
         refine ⟨a1, _, a2, ?_⟩
         simp only [ShpK, ht, hk, hte]
         exact ⟨0, _, rfl, by simp, fun i hi => absurd hi (Nat.not_lt_zero i)⟩
       · simp only [DataW.weights, hu, List.mem_cons, List.mem_append] at hw
         have hwlen : len * te.bytes ≤ K := by
           refine Nat.le_trans (Nat.mul_le_mul_right _ ?_) (by have := hw _ (.inl rfl); rw [hb] at this; exact this)
           simp [hlen]
         have hE : ∀ i, i < len → ∃ g : Nat → CV, (∃ ecs : List Value, ecs.length = te.size ∧ (∀ j, j < te.size → w.cell? ((a.add (i * te.size)).add j) = ecs[j]?) ∧ ∀ j u, ecs[j]? = some u → RP (fun b => b < w.heap.size) w (g j) u) ∧ ShpK K E n e g := fun i hi => by
           have h1 := hel i hi
           have hi' : i < elems.length := by omega
           rw [List.getElem?_eq_getElem hi'] at h1
           simp only [Option.bind_eq_some_iff] at h1
           obtain ⟨ecs, h2, h3⟩ := h1
           obtain ⟨h4, h5, h6⟩ := World.cells?_some h2
           obtain ⟨h7, g, h8, h9⟩ := trod_shape hT hte hs.2 h3 (fun y hy => hw y (.inr (.inl (weightsAll_mem (List.mem_map.2 ⟨elems[i], List.getElem_mem hi', rfl⟩) y hy))))
           exact ⟨g, ⟨ecs, h7, fun j hj => by rw [← hc]; exact h6 j (by rw [hc]; exact hj), h8⟩, h9⟩
         have hG : ∃ g : Nat → Nat → CV, ∀ i, i < len → (∃ ecs : List Value, ecs.length = te.size ∧ (∀ j, j < te.size → w.cell? ((a.add (i * te.size)).add j) = ecs[j]?) ∧ ∀ j u, ecs[j]? = some u → RP (fun b => b < w.heap.size) w (g i j) u) ∧ ShpK K E n e (g i) := by
           refine ⟨fun i => if hi : i < len then Classical.choose (hE i hi) else fun _ => .any, fun i hi => ?_⟩
           simp only [dif_pos hi]
           exact Classical.choose_spec (hE i hi)
         obtain ⟨g, hg⟩ := hG
         have hr : RP (fun b => b < w.heap.size) w (.vs te.size len g) (.slice (some a) len cap) := by
           refine ⟨some a, cap, rfl, hlc, fun hl0 => ?_⟩
           obtain ⟨⟨ecs, e1, e2, _⟩, _⟩ := hg 0 hl0
           have e3 := e2 0 (by omega)
           have e4 : 0 < ecs.length := by omega
           rw [List.getElem?_eq_getElem e4] at e3
           have hsp : a.spot = none := by simpa [Addr.add] using World.cell?_spot e3
           obtain ⟨b, off, sp⟩ := a
           simp only at hsp; subst hsp
           have hblk : b < w.heap.size := by
             rw [add_none, add_none] at e3
             simp only [World.cell?] at e3
             cases hh : w.heap[b]? with
             | none => rw [hh] at e3; cases e3
             | some o => exact (Array.getElem?_eq_some_iff.1 hh).1
           refine ⟨b, off, rfl, hblk, fun i hi j hj => ?_⟩
           obtain ⟨⟨ecs, e1, e2, e5⟩, _⟩ := hg i hi
           have e6 := e2 j hj
           have e7 : j < ecs.length := by omega
           rw [List.getElem?_eq_getElem e7] at e6
           refine ⟨ecs[j], ?_, e5 j _ (List.getElem?_eq_getElem e7)⟩
           rw [add_none, add_none, Nat.add_assoc] at e6
           exact e6
         obtain ⟨a1, a2⟩ := one _ _ (by rw [hk]; rfl) hr
         refine ⟨a1, _, a2, ?_⟩
         simp only [ShpK, ht, hk, hte]
         exact ⟨len, g, rfl, hwlen, fun i hi => (hg i hi).2⟩
   | struct l =>
     rw [hk] at hs
     simp only at hs
     obtain ⟨fs, rfl, rfl, _⟩ := hF.struct hk
     obtain ⟨xs, m, _, rfl, hcl, hxl, hx⟩ := DataW.trod_struct hu h
     rw [(hT.cells ht).1] at hcl
     simp only [DataW.weights, hu] at hw
     obtain ⟨get, g1, g2⟩ := fields_shape (cs := cs) (fun a b c d => trod_shape hT a b c d) (fun t tf h => (hT.cells h).1) (fs := fs.toList) (xs := xs) hT hs (by simpa using hxl) (fun i f hi => hx i f (by simpa using hi)) hw hcl
     refine ⟨hcl, get, fun j u hu => g1 j u (Nat.zero_le _) hu, ?_⟩
     simp only [ShpK, ht, hk]
     exact g2
   | array m e =>
     rw [hk] at hs
     simp only at hs
     obtain ⟨rfl, _⟩ := hF.array hk
     cases hte : E.ty e with
     | none => rw [hte] at hs; cases hs
     | some te =>
       rw [hte] at hs
       simp only [Bool.and_eq_true] at hs
       have hsz := Nat.eq_of_beq_eq_true hs.1.1
       have hpos : 1 ≤ te.size := Nat.le_of_ble_eq_true hs.1.2
       obtain ⟨hc, _⟩ := hT.cells hte
       obtain ⟨xs, k, _, rfl, hcl, hxl, hx⟩ := DataW.trod_array hu h
       rw [(hT.cells ht).1] at hcl
       simp only [DataW.weights, hu] at hw
       have hE : ∀ i, i < m → ∃ g : Nat → CV, (∀ j u, j < te.size → cs[i * te.size + j]? = some u → RP (fun b => b < w.heap.size) w (g j) u) ∧ ShpK K E n e g := fun i hi => by
         have h1 := hx i hi
         have hi' : i < xs.length := by omega
         rw [List.getElem?_eq_getElem hi'] at h1
         obtain ⟨h7, g, h8, h9⟩ := trod_shape hT hte hs.2 h1 (fun y hy => hw y (weightsAll_mem (List.mem_map.2 ⟨xs[i], List.getElem_mem hi', rfl⟩) y hy))
         refine ⟨g, fun j u hj hu => h8 j u ?_, h9⟩
         rw [hc, List.getElem?_take_of_lt hj, List.getElem?_drop]; exact hu
       have hG : ∃ g : Nat → Nat → CV, ∀ i, i < m → (∀ j u, j < te.size → cs[i * te.size + j]? = some u → RP (fun b => b < w.heap.size) w (g i j) u) ∧ ShpK K E n e (g i) := by
         refine ⟨fun i => if hi : i < m then Classical.choose (hE i hi) else fun _ => .any, fun i hi => ?_⟩
         simp only [dif_pos hi]
         exact Classical.choose_spec (hE i hi)
       obtain ⟨g, hg⟩ := hG
       refine ⟨hcl, fun j => g (j / te.size) (j % te.size), fun j u hj => ?_, ?_⟩
       · have hjl := (List.getElem?_eq_some_iff.1 hj).1
         rw [hcl, ← hsz] at hjl
         have hq : j / te.size < m := (Nat.div_lt_iff_lt_mul (by omega)).2 hjl
         refine (hg _ hq).1 _ u (Nat.mod_lt _ (by omega)) ?_
         rw [Nat.mul_comm, Nat.div_add_mod]; exact hj
       · simp only [ShpK, ht, hk, hte]
         intro i hi
         refine ShpK.congr hT hte hs.2 (fun j hj => ?_) (hg i hi).2
         have e1 : (i * te.size + j) / te.size = i := by
           rw [Nat.mul_comm, Nat.mul_add_div (by omega), Nat.div_eq_of_lt hj, Nat.add_zero]
         have e2 : (i * te.size + j) % te.size = j := by
           rw [Nat.mul_comm, Nat.mul_add_mod, Nat.mod_eq_of_lt hj]
         rw [e1, e2]
   | ptr => rw [hk] at hs; cases hs
   | map k v => rw [hk] at hs; cases hs
   | func => rw [hk] at hs; cases hs
   | other => exact absurd hk hne
open Go.RowKit Go.ChangeShapes Go.WideShapes
theorem Evo.below {Z Z' : Nat → Prop} {w w' : World} (h : Evo (fun _ => False) Z w Z' w') : Go.RowKit.Below w.heap.size w w' :=
 ⟨h.os, h.tape, h.output, h.size, fun b hb => h.same b hb (fun hh => hh)⟩
def argTys (P : Program) (ts : List Nat) : Bool := ts.all fun t => P.readableRec t && decide (t < P.types.size)
theorem below_all (hl : laidOutB P = true) {W W' : World} (hb : Go.RowKit.Below W.heap.size W W') : ∀ {ts : List Nat} {vs : List Value} {ds : List (DataW H)} {ps : List MemPlace}, argTys P ts = true →
   DataW.TrodAll enc P W 0 (fun _ => true) true ts vs ds ps → (∀ x ∈ ps, x.block < W.heap.size) → DataW.TrodAll enc P W' 0 (fun b => decide (b < W.heap.size)) true ts vs ds ps
 | [], [], [], _, _, h, _ => h
 | [], [], _ :: _, _, _, h, _ => h.elim
 | [], _ :: _, _, _, _, h, _ => h.elim
 | _ :: _, [], _, _, _, h, _ => h.elim
 | _ :: _, _ :: _, [], _, _, h, _ => h.elim
 | t :: ts, v :: vs, d :: ds, ps, ha, h, hlt => by
   obtain ⟨p, q, h1, h2, rfl⟩ := h
   simp only [argTys, List.all_cons, Bool.and_eq_true, decide_eq_true_eq] at ha
   exact ⟨p, q, Below.trod hl ha.1.1 ha.1.2 h1 hb (fun x hx => hlt x (by simp [hx])), below_all hl hb (by simpa [argTys] using ha.2) h2 (fun x hx => hlt x (by simp [hx])), rfl⟩
theorem post_true {f : Func} {s : ChangeSpec} (hl : laidOutB P = true) {b : Nat} (hres : f.resultTypes = #[b]) (hb : P.underlying b = some .bool) (hargs : argTys P f.params.toList = true) (hvars : s.vars = [])
   {W W' : World} {args : Array Value} {ds gs : List (DataW H)} {before : List MemPlace} (hW : DataW.Whole enc P f.params.toList s.vars false W args.toList ds gs before)
   (hs : s.fn H (ds ++ gs) = { results := [.lit (.bool true)], args := ds }) (ev : Go.RowKit.Below W.heap.size W W') : s.post enc P f false true false false W args (.bool true) W' := by
 have hlt := hW.lt
 have hW' := hW
 obtain ⟨p, q, hA, hV, rfl, hfz, hnd⟩ := hW
 have hV' : DataW.TrodVars enc P W (fun _ => true) [] gs q := by rw [hvars] at hV; exact hV
 obtain ⟨rfl, rfl⟩ := trodVars_none hV'
 refine ⟨ds, [], p ++ [], [], p, [], hW', ?_, ?_, ?_, ev.frame _, fun h => by cases h⟩
 · rw [hs, hres]; exact trodAll_mk1 (shut_bool hb true)
 · rw [hs]; exact below_all hl ev hargs hA (fun x hx => hlt x (by simp [hx]))
 · rw [hs, hvars]; rfl
theorem okWide_one {r : Reach} {base : Nat} {t : TypeId} {v : Value} (h : Value.okWide P w r base t v) (hd : ∀ d, P.underlying t = some d → (∀ fs, d ≠ .struct fs) ∧ ∀ n e, d ≠ .array n e) : v.cells = #[v] := by
 cases v with
 | agg cs =>
   exfalso
   unfold Value.okWide at h
   split at h
   · rename_i fs hu; exact (hd _ hu).1 _ rfl
   · rename_i n e hu; exact (hd _ hu).2 _ _ rfl
   · unfold Cell.okWide at h
     split at h
     all_goals first
       | (rename_i h1; cases h1; done)
       | (rename_i h1 _; cases h1; done)
       | skip
     all_goals (unfold Cell.ok at h; split at h <;> first | exact h.elim | (rename_i h1; cases h1))
 | _ => rfl
theorem okWide_agg {r : Reach} {base : Nat} {t : TypeId} {v : Value} (h : Value.okWide P w r base t v) {d : TypeDesc} (hu : P.underlying t = some d) (hd : (∃ fs, d = .struct fs) ∨ ∃ n e, d = .array n e) : ∃ cs, v = .agg cs := by
 unfold Value.okWide at h
 rcases hd with ⟨fs, rfl⟩ | ⟨n, e, rfl⟩
 · rw [hu] at h
   obtain ⟨cs, rfl, _⟩ := h; exact ⟨cs, rfl⟩
 · rw [hu] at h
   obtain ⟨cs, rfl, _⟩ := h; exact ⟨cs, rfl⟩
def AllShpK (K : Nat) (E : Env) (n : Nat) : List Nat → List TV → Prop
 | [], [] => True
 | t :: ts, v :: vs => (∃ ti get, E.ty t = some ti ∧ v = mkTV ti get ∧ ShpK K E n t get) ∧ AllShpK K E n ts vs
 | _, _ => False
abbrev AllShp (E : Env) (n : Nat) : List Nat → List TV → Prop := AllShpK reachBytes E n
theorem AllShpK.cons {E : Env} {n t : Nat} {ts : List Nat} {tvs : List TV} {ti : TI} (h : AllShpK K E n (t :: ts) tvs) (ht : E.ty t = some ti) : ∃ get rest, tvs = mkTV ti get :: rest ∧ ShpK K E n t get ∧ AllShpK K E n ts rest := by
 cases tvs with
 | nil => exact h.elim
 | cons v vs =>
   obtain ⟨⟨tj, get, h1, h2, h3⟩, h4⟩ := h
   obtain rfl := Option.some.inj (h1.symm.trans ht)
   exact ⟨get, vs, by rw [h2], h3, h4⟩
theorem AllShpK.nil {E : Env} {n : Nat} {tvs : List TV} (h : AllShpK K E n [] tvs) : tvs = [] := by
 cases tvs with
 | nil => rfl
 | cons v vs => exact h.elim
def allShB (E : Env) (n : Nat) (ts : List Nat) : Bool := ts.all fun t => (E.ty t).isSome && shapeB E n t
theorem shape_val (hT : TabOk P E) {n t : Nat} {ti : TI} {r : Reach} {base : Nat} {v : Value} {d : DataW H} {ps : List MemPlace} (ht : E.ty t = some ti) (hs : shapeB E n t = true) (hval : Value.okWide P w r base t v)
   (hd : DataW.Trod enc P w 0 (fun _ => true) true t v d ps) (hw : ∀ y ∈ d.weights P t, y ≤ K) : ∃ get, RT (fun _ => .no) (fun b => b < w.heap.size) w (mkTV ti get) v ∧ ShpK K E n t get := by
 obtain ⟨fuel, hf⟩ := hd
 obtain ⟨hlen, get, h1, h2⟩ := trod_shape hT ht hs hf hw
 refine ⟨get, ?_, h2⟩
 obtain ⟨i, ds, z, hF⟩ := tabTI_spec (hT t ti ht).1
 have hkind := hF.kind
 unfold mkTV TI.isAgg
 have hagg : (∃ fs, ds = .struct fs) ∨ (∃ n e, ds = .array n e) ∨ ((∀ fs, ds ≠ .struct fs) ∧ ∀ n e, ds ≠ .array n e) := by
   cases ds with
   | struct fs => exact .inl ⟨_, rfl⟩
   | array n e => exact .inr (.inl ⟨_, _, rfl⟩)
   | _ => exact .inr (.inr ⟨fun _ h => by (cases h), fun _ _ h => by (cases h)⟩)
 cases hk : ti.kind.isAgg with
 | true =>
   simp only [if_true]
   obtain ⟨cs, rfl⟩ := okWide_agg hval hF.und (by
     rcases hagg with h | h | h
     · exact .inl h
     · exact .inr h
     · exfalso
       cases e : ti.kind with
       | struct l => obtain ⟨fs, e1, _⟩ := hF.struct e; exact h.1 _ e1
       | array m e' => exact h.2 _ _ (hF.array e).1
       | _ => rw [e] at hk; cases hk)
   refine ⟨cs, rfl, by simpa [Value.cells] using hlen, fun j hj => ?_⟩
   have hj' : j < cs.size := by have : cs.size = ti.size := by simpa [Value.cells] using hlen
                                omega
   exact ⟨cs[j], by simp [hj'], RC.of_RP (h1 j _ (by simp [Value.cells, hj']))⟩
 | false =>
   simp only [Bool.false_eq_true, if_false]
   have hc := okWide_one hval (fun d' hd' => by
     obtain rfl : d' = ds := Option.some.inj (hd'.symm.trans hF.und)
     rcases hagg with ⟨fs, rfl⟩ | ⟨m, e, rfl⟩ | h
     · exfalso
       simp only [kindOf] at hkind
       split at hkind
       · injection hkind with hkind; rw [← hkind] at hk; cases hk
       · injection hkind with hkind; exact (hT t ti ht).2 hkind.symm
     · exfalso
       simp only [kindOf] at hkind
       split at hkind
       · injection hkind with hkind; rw [← hkind] at hk; cases hk
       · injection hkind with hkind; exact (hT t ti ht).2 hkind.symm
     · exact h)
   exact RC.of_RP (h1 0 v (by rw [hc]; rfl))
theorem shape_all (hT : TabOk P E) {n : Nat} {r : Reach} {base : Nat} : ∀ {ts : List Nat} {vs : List Value} {ds : List (DataW H)} {ps : List MemPlace}, allShB E n ts = true → (∀ (j : Nat) t v, ts[j]? = some t → vs[j]? = some v → Value.okWide P w r base t v) →
   DataW.TrodAll enc P w 0 (fun _ => true) true ts vs ds ps → (∀ y ∈ DataW.weightsEach P ts ds, y ≤ K) → ∃ tvs, AllShpK K E n ts tvs ∧ RL (fun _ => .no) (fun b => b < w.heap.size) w tvs vs ∧ ds.length = ts.length
 | [], [], [], _, _, _, _, _ => ⟨[], trivial, trivial, rfl⟩
 | [], [], _ :: _, _, _, _, h, _ => h.elim
 | [], _ :: _, _, _, _, _, h, _ => h.elim
 | _ :: _, [], _, _, _, _, h, _ => h.elim
 | _ :: _, _ :: _, [], _, _, _, h, _ => h.elim
 | t :: ts, v :: vs, d :: ds, ps, ha, hv, h, hw => by
   obtain ⟨p, q, h1, h2, rfl⟩ := h
   simp only [allShB, List.all_cons, Bool.and_eq_true] at ha
   obtain ⟨ti, hti⟩ := Option.isSome_iff_exists.1 ha.1.1
   simp only [DataW.weightsEach, List.mem_append] at hw
   obtain ⟨get, a1, a2⟩ := shape_val hT hti ha.1.2 (hv 0 t v rfl rfl) h1 (fun y hy => hw y (.inl hy))
   obtain ⟨tvs, b1, b2, b3⟩ := shape_all hT (by simpa [allShB] using ha.2) (fun j t' v' e1 e2 => hv (j + 1) t' v' (by simpa using e1) (by simpa using e2)) h2 (fun y hy => hw y (.inr hy))
   exact ⟨mkTV ti get :: tvs, ⟨⟨ti, get, hti, rfl, a2⟩, b1⟩, ⟨a1, b2⟩, by simp [b3]⟩
theorem law_calls (hT : TabOk P E) {f : FuncId} {fn : Func} {s : ChangeSpec} {n : Nat} (hsh : allShB E n fn.params.toList = true) (hl : laidOutB P = true) {b : Nat} (hres : fn.resultTypes = #[b]) (hb : P.underlying b = some .bool)
   (hargs : argTys P fn.params.toList = true) (hvars : s.vars = []) (hs : ∀ ds : List (DataW H), ds.length = fn.params.size → s.fn H ds = { results := [.lit (.bool true)], args := ds })
   (hq : ∀ tvs, AllShpK K E n fn.params.toList tvs → CallQ P E f tvs [.v (.c (.bool true))])
   {W : World} {r : Reach} {base : Nat} {args : Array Value} {ds gs : List (DataW H)} {before : List MemPlace}
   (hval : ∀ (j : Nat) t v, fn.params[j]? = some t → args[j]? = some v → Value.okWide P W r base t v)
   (hW : DataW.Whole enc P fn.params.toList s.vars false W args.toList ds gs before)
   (hwt : (DataW.weightsEach P (fn.params.toList ++ s.plain.varTypes P) (ds ++ gs)).all (· ≤ K) = true)
   (hgl : GlOk E (fun b => b < W.heap.size) W) :
   Calls P f args W fun e W' => ∃ v, e = .returned v ∧ s.post enc P fn false true false false W args v W' := by
 have hW' := hW
 obtain ⟨p, q, hA, hV, rfl, hfz, hnd⟩ := hW
 have hV' : DataW.TrodVars enc P W (fun _ => true) [] gs q := by rw [hvars] at hV; exact hV
 obtain ⟨rfl, rfl⟩ := trodVars_none hV'
 have hvt : s.plain.varTypes P = [] := by
   unfold DataSpec.varTypes ChangeSpec.plain
   rw [hvars]; rfl
 simp only [hvt, List.append_nil, List.all_eq_true, decide_eq_true_eq] at hwt
 obtain ⟨tvs, a1, a2, a3⟩ := shape_all hT hsh (fun j t v e1 e2 => hval j t v (by simpa using e1) (by simpa using e2)) hA hwt
 have hc := hq tvs a1 (fun b => b < W.heap.size) W args.toList ⟨fun _ _ h => by (cases h), fun _ _ _ _ h => by (cases h), fun _ _ _ _ _ _ _ h => by (cases h), fun b hb => hb, fun _ _ => rfl, hgl⟩ a2
 rw [Array.toArray_toList] at hc
 refine (callsIn_wide.1 hc).mono fun e W' hp => ?_
 obtain ⟨val, β', Z', rfl, _, h3, h4, _, _⟩ := hp
 obtain rfl : val = .bool true := h3
 exact ⟨_, rfl, post_true hl hres hb hargs hvars hW' (by rw [List.append_nil]; exact hs _ (by simpa using a3)) h4.below⟩
end
end Go.Sx
namespace Go.Proofs.Ytpigkgoooekcgaa
open Go Go.Sx Bm Go.ChangeShapes Go.WideShapes Go.ChangeAt Go.RowKit
set_option maxRecDepth 100000
theorem own_knob : ownKnob Try.prog.godebug = none := by kernel_rfl
theorem laidOut : laidOutB Try.prog = true := by kernel_rfl
theorem gl_ok {W : World} : GlOk E0 (fun b => b < W.heap.size) W := fun g n get hg => by cases hg
theorem callQ_fit {P : Program} {E : Env} {f : FuncId} {tvs args : List TV} {rs : List RV} (hf : fitTVs tvs args) (h : CallQ P E f args rs) : CallQ P E f tvs rs :=
 fun Z w vs hs hr => h Z w vs hs (fitTVs_ok hf hr)
theorem ty3 : E0.ty 3 = some ⟨(.int .i64), 1, 8, [.int .i64 0]⟩ := rfl
theorem int_of {n : Nat} {g : Nat → CV} (h : Shp E0 (n + 1) 3 g) : ∃ a : Int, g 0 = .int .i64 a := let ⟨a, h1, _⟩ := h; ⟨a, h1⟩
theorem fit_int {g : Nat → CV} {j : Nat} {a : Int} (e : g j = .int .i64 a) : fitCV (fun _ => .bad) (g j) (.int .i64 a) := by
 rw [e]; exact ⟨trivial, rfl⟩
theorem arg_int {n : Nat} {g : Nat → CV} (h : Shp E0 (n + 1) 3 g) : ∃ a : Int, fitTV (fun _ => .bad) (mkTV ⟨(.int .i64), 1, 8, [.int .i64 0]⟩ g) (intC a) := by
 obtain ⟨a, e⟩ := int_of h
 refine ⟨a, ?_⟩
 show fitCV _ (g 0) (.int .i64 a)
 exact fit_int e
end Go.Proofs.Ytpigkgoooekcgaa
namespace Go.Proofs.Ytpigkgoooekcgaa
open Go Go.Sx Bm Go.ChangeShapes Go.WideShapes Go.ChangeAt Go.RowKit
set_option maxRecDepth 100000
end Go.Proofs.Ytpigkgoooekcgaa
