/- Texts for the law of the last part, part 18. -/
import Derived.Test.YtcfmdhlohahhcaaDoorMendsUptoP17
import Derived.ChangeArms
import Derived.ChangeShapes
import Derived.OpenShut
import Derived.Carry
import Derived.Handed
import Derived.LaidMore
import Derived.Test.YtcfmdhlohahhcaaDoorTie
import Derived.Test.YtcfmdhlohahhcaaDoorCards
import Derived.ProofKit
import Derived.Stop.Joined
import Derived.SevenTiedAt
import Derived.Deep.DeepHandedRow
set_option linter.unusedSimpArgs false
set_option linter.unusedVariables false
namespace Nm
open Go Go.Sx
end Nm
namespace Go.Proofs.YtcfmdhlohahhcaaDoor
open Go Go.Sx Nm
set_option maxRecDepth 100000
set_option maxHeartbeats 2000000
theorem exMd {t : Torn} {p : Pcs} {R : MdAsk → Prop} (h : R ⟨t, p⟩) : ∃ a : MdAsk, t.w = a.t.w ∧ t.h = a.t.h ∧ t.n = a.t.n ∧ (∀ i, i < t.n → t.b i 0 = a.t.b i 0 ∧ t.b i 1 = a.t.b i 1) ∧ t.m = a.t.m ∧ t.k = a.t.k ∧ p.np = a.p.np ∧ (∀ i, i < p.np → p.len i = a.p.len i ∧ ∀ j, j < p.len i → p.kn i j = a.p.kn i j) ∧ R a :=
 ⟨⟨t, p⟩, rfl, rfl, rfl, fun _ _ => ⟨rfl, rfl⟩, rfl, rfl, rfl, fun _ _ => ⟨rfl, fun _ _ => rfl⟩, h⟩
theorem md_of {t : Torn} (hc : tchk t = true) {L : List (List Int)} (c1 : ∀ j, j < t.n → cntL t.b j L = 1) (c2 : ∀ p ∈ L, PcOk t.n t.b p) : mdB t (pcsOf L) = true ∧ mdV t (pcsOf L) = twV t (L.length : Nat) := by
 have hm : isM t (pcsOf L) = true := isM_iff.2 (by rw [lst_pcs]; exact ⟨c2, c1⟩)
 refine ⟨by unfold mdB; rw [hc, hm]; rfl, ?_⟩
 unfold mdV
 rw [if_pos hc, if_pos hm]; rfl
theorem q6 (t : Torn) (p : Pcs) (ht : t.wf) (hp : p.wf) : CallQ Tryd.prog E0 6 [tornTV t, pcsTV p] [.v (.c (.bool true))] := by
 refine CallQ.congr (E := E2) (E' := E0) E2_gl.symm (bare_say E2_ok [(33, sTwn), (32, sTwn), (21, sYes), (35, sFew), (28, sMd), (29, sMd), (31, sCkT), (30, sCkT), (127, sTdN), (123, sTdE), (126, sSl 8), (122, sSl 6), (125, sLg 1), (120, sLg 0), (124, sAt 1), (119, sAt 0), (121, sLong)] ((show SigsOk Tryd.prog E0 [(33, sTwn), (32, sTwn), (21, sYes), (35, sFew), (28, sMd), (29, sMd), (31, sCkT), (30, sCkT), (127, sTdN), (123, sTdE), (126, sSl 8), (122, sSl 6), (125, sLg 1), (120, sLg 0), (124, sAt 1), (119, sAt 0), (121, sLong)] from (((((((((((((((((SigsOk.nil.cons u121 fun x _ => q121 x).cons u119 fun x _ => q119 x).cons u124 fun x _ => q124 x).cons u120 fun x _ => q120 x).cons u125 fun x _ => q125 x).cons u122 fun x _ => q122 x).cons u126 fun x _ => q126 x).cons u123 q123).cons u127 q127).cons u30 q30).cons u31 q31).cons u29 q29).cons u28 q28).cons u35 q35).cons u21 fun _ _ => q21g).cons u32 q32).cons u33 q33)).congr E2_gl) [] EvensOk.nil runs { live := true } (fuel := 8) ?_)
 refine of_red (q := ∃ (x : MdAsk), ((True∧((((True∧True∧t.w = x.t.w)∧True∧t.h = x.t.h)∧True∧True∧t.n = x.t.n∧∀ (i : Nat), i < t.n→(True∧t.b i 0 = x.t.b i 0)∧t.b i 1 = x.t.b i 1)∧True∧t.m = x.t.m)∧True∧t.k = x.t.k)∧(True∧True∧p.np = x.p.np∧∀ (i : Nat), i < p.np→True∧True∧p.len i = x.p.len i∧∀ (i_1 : Nat), i_1 < p.len i→True∧p.kn i i_1 = x.p.kn i i_1)∧True)∧((x.t.n < (4611686018427387904 : Nat)∧∀ (i : Nat), i < x.t.n→((-9223372036854775808 : Int)≤x.t.b i (0 : Nat)∧x.t.b i (0 : Nat)≤(9223372036854775807 : Int))∧(-9223372036854775808 : Int)≤x.t.b i (1 : Nat)∧x.t.b i (1 : Nat)≤(9223372036854775807 : Int))∧x.p.np≤(1073741824 : Nat)∧∀ (i : Nat), i < x.p.np→x.p.len i≤(1073741824 : Nat)∧∀ (k : Nat), k < x.p.len i→(-9223372036854775808 : Int)≤x.p.kn i k∧x.p.kn i k≤(9223372036854775807 : Int))∧∃ (x_1 : MdAsk), ((True∧((((True∧True∧t.w = x_1.t.w)∧True∧t.h = x_1.t.h)∧True∧True∧t.n = x_1.t.n∧∀ (i : Nat), i < t.n→(True∧t.b i 0 = x_1.t.b i 0)∧t.b i 1 = x_1.t.b i 1)∧True∧t.m = x_1.t.m)∧True∧t.k = x_1.t.k)∧(True∧True∧p.np = x_1.p.np∧∀ (i : Nat), i < p.np→True∧True∧p.len i = x_1.p.len i∧∀ (i_1 : Nat), i_1 < p.len i→True∧p.kn i i_1 = x_1.p.kn i i_1)∧True)∧((x_1.t.n < (4611686018427387904 : Nat)∧∀ (i : Nat), i < x_1.t.n→((-9223372036854775808 : Int)≤x_1.t.b i (0 : Nat)∧x_1.t.b i (0 : Nat)≤(9223372036854775807 : Int))∧(-9223372036854775808 : Int)≤x_1.t.b i (1 : Nat)∧x_1.t.b i (1 : Nat)≤(9223372036854775807 : Int))∧x_1.p.np≤(1073741824 : Nat)∧∀ (i : Nat), i < x_1.p.np→x_1.p.len i≤(1073741824 : Nat)∧∀ (k : Nat), k < x_1.p.len i→(-9223372036854775808 : Int)≤x_1.p.kn i k∧x_1.p.kn i k≤(9223372036854775807 : Int))∧((mdV x.t x.p != mdV x_1.t x_1.p) = true→True∧true = false)∧((mdV x.t x.p != mdV x_1.t x_1.p) = false→((!mdB x.t x.p == mdB x_1.t x_1.p) = true→True∧true = false)∧((!mdB x.t x.p == mdB x_1.t x_1.p) = false→((tchkE x.t != tchkE x_1.t) = true→True∧true = false)∧((tchkE x.t != tchkE x_1.t) = false→∃ (x : Torn), ((True∧((((True∧True∧t.w = x.w)∧True∧t.h = x.h)∧True∧True∧t.n = x.n∧∀ (i : Nat), i < t.n→(True∧t.b i 0 = x.b i 0)∧t.b i 1 = x.b i 1)∧True∧t.m = x.m)∧True∧t.k = x.k)∧True)∧(x.n < (4611686018427387904 : Nat)∧∀ (i : Nat), i < x.n→((-9223372036854775808 : Int)≤x.b i (0 : Nat)∧x.b i (0 : Nat)≤(9223372036854775807 : Int))∧(-9223372036854775808 : Int)≤x.b i (1 : Nat)∧x.b i (1 : Nat)≤(9223372036854775807 : Int))∧∃ (x_2 : Torn), ((True∧((((True∧True∧t.w = x_2.w)∧True∧t.h = x_2.h)∧True∧True∧t.n = x_2.n∧∀ (i : Nat), i < t.n→(True∧t.b i 0 = x_2.b i 0)∧t.b i 1 = x_2.b i 1)∧True∧t.m = x_2.m)∧True∧t.k = x_2.k)∧True)∧(x_2.n < (4611686018427387904 : Nat)∧∀ (i : Nat), i < x_2.n→((-9223372036854775808 : Int)≤x_2.b i (0 : Nat)∧x_2.b i (0 : Nat)≤(9223372036854775807 : Int))∧(-9223372036854775808 : Int)≤x_2.b i (1 : Nat)∧x_2.b i (1 : Nat)≤(9223372036854775807 : Int))∧((tchkE x != tchkE x_2) = true→True∧true = false)∧((tchkE x != tchkE x_2) = false→∃ (x : Torn), ((True∧((((True∧True∧t.w = x.w)∧True∧t.h = x.h)∧True∧True∧t.n = x.n∧∀ (i : Nat), i < t.n→(True∧t.b i 0 = x.b i 0)∧t.b i 1 = x.b i 1)∧True∧t.m = x.m)∧True∧t.k = x.k)∧True)∧(x.n < (4611686018427387904 : Nat)∧∀ (i : Nat), i < x.n→((-9223372036854775808 : Int)≤x.b i (0 : Nat)∧x.b i (0 : Nat)≤(9223372036854775807 : Int))∧(-9223372036854775808 : Int)≤x.b i (1 : Nat)∧x.b i (1 : Nat)≤(9223372036854775807 : Int))∧∃ (x_3 : Torn), ((True∧((((True∧True∧t.w = x_3.w)∧True∧t.h = x_3.h)∧True∧True∧t.n = x_3.n∧∀ (i : Nat), i < t.n→(True∧t.b i 0 = x_3.b i 0)∧t.b i 1 = x_3.b i 1)∧True∧t.m = x_3.m)∧True∧t.k = x_3.k)∧True)∧(x_3.n < (4611686018427387904 : Nat)∧∀ (i : Nat), i < x_3.n→((-9223372036854775808 : Int)≤x_3.b i (0 : Nat)∧x_3.b i (0 : Nat)≤(9223372036854775807 : Int))∧(-9223372036854775808 : Int)≤x_3.b i (1 : Nat)∧x_3.b i (1 : Nat)≤(9223372036854775807 : Int))∧(lookFn fnTab (34 : Nat)).isSome = true∧∃ (g : Torn), (g.n < (4611686018427387904 : Nat)∧∀ (i : Nat), i < g.n→((-9223372036854775808 : Int)≤g.b i (0 : Nat)∧g.b i (0 : Nat)≤(9223372036854775807 : Int))∧(-9223372036854775808 : Int)≤g.b i (1 : Nat)∧g.b i (1 : Nat)≤(9223372036854775807 : Int))∧True∧((True∧((((True∧True∧t.w = g.w)∧True∧t.h = g.h)∧True∧True∧t.n = g.n∧∀ (i : Nat), i < t.n→(True∧t.b i 0 = g.b i 0)∧t.b i 1 = g.b i 1)∧True∧t.m = g.m)∧True∧t.k = g.k)∧True)∧True∧∀ (d : rMd.δ), MdPost g d→((twnV x != twnV x_3) = true→True∧true = false)∧((twnV x != twnV x_3) = false→((tchkE x != tchkE x_3) = true→True∧true = false)∧((tchkE x != tchkE x_3) = false→((tchkE x_3 != (0 : Int)) = true→(((↑(pcsOf d).np : Int) == (0 : Int)) = true→((mendE g == tchkE x_3) = true→∃ (x : Unit), True∧True∧True∧true = true)∧((mendE g == tchkE x_3) = false→((tchkE x_3 == (0 : Int)) = true→((mendE g == (4 : Int)) = true→∃ (x : Unit), True∧True∧True∧true = true)∧((mendE g == (4 : Int)) = false→True∧true = false))∧((tchkE x_3 == (0 : Int)) = false→True∧true = false)))∧(((↑(pcsOf d).np : Int) == (0 : Int)) = false→True∧true = false))∧((tchkE x_3 != (0 : Int)) = false→(((↑t.n : Int) == (0 : Int)) = true→(((↑(pcsOf d).np : Int) == (0 : Int)) = true→((mendE g == tchkE x_3) = true→∃ (x : Unit), True∧True∧True∧true = true)∧((mendE g == tchkE x_3) = false→((tchkE x_3 == (0 : Int)) = true→((mendE g == (4 : Int)) = true→∃ (x : Unit), True∧True∧True∧true = true)∧((mendE g == (4 : Int)) = false→True∧true = false))∧((tchkE x_3 == (0 : Int)) = false→True∧true = false)))∧(((↑(pcsOf d).np : Int) == (0 : Int)) = false→True∧true = false))∧(((↑t.n : Int) == (0 : Int)) = false→∃ (x : MdAsk), ((True∧((((True∧True∧t.w = x.t.w)∧True∧t.h = x.t.h)∧True∧True∧t.n = x.t.n∧∀ (i : Nat), i < t.n→(True∧t.b i 0 = x.t.b i 0)∧t.b i 1 = x.t.b i 1)∧True∧t.m = x.t.m)∧True∧t.k = x.t.k)∧(True∧True∧(pcsOf d).np = x.p.np∧∀ (i : Nat), i < (pcsOf d).np→True∧True∧(pcsOf d).len i = x.p.len i∧∀ (i_1 : Nat), i_1 < (pcsOf d).len i→True∧(pcsOf d).kn i i_1 = x.p.kn i i_1)∧True)∧((x.t.n < (4611686018427387904 : Nat)∧∀ (i : Nat), i < x.t.n→((-9223372036854775808 : Int)≤x.t.b i (0 : Nat)∧x.t.b i (0 : Nat)≤(9223372036854775807 : Int))∧(-9223372036854775808 : Int)≤x.t.b i (1 : Nat)∧x.t.b i (1 : Nat)≤(9223372036854775807 : Int))∧x.p.np≤(1073741824 : Nat)∧∀ (i : Nat), i < x.p.np→x.p.len i≤(1073741824 : Nat)∧∀ (k : Nat), k < x.p.len i→(-9223372036854775808 : Int)≤x.p.kn i k∧x.p.kn i k≤(9223372036854775807 : Int))∧((mendE g == (0 : Int)) = true→((tchkE x.t == (0 : Int)) = true→(mdB x.t x.p = true→∃ (x : Torn), ((True∧((((True∧True∧t.w = x.w)∧True∧t.h = x.h)∧True∧True∧t.n = x.n∧∀ (i : Nat), i < t.n→(True∧t.b i 0 = x.b i 0)∧t.b i 1 = x.b i 1)∧True∧t.m = x.m)∧True∧t.k = x.k)∧True)∧TkOk x∧(((↑(pcsOf d).np : Int) == (↑(fewT x) : Int)) = true→∃ (x : Unit), True∧True∧True∧true = true)∧(((↑(pcsOf d).np : Int) == (↑(fewT x) : Int)) = false→True∧true = false))∧(mdB x.t x.p = false→True∧true = false))∧((tchkE x.t == (0 : Int)) = false→True∧true = false))∧((mendE g == (0 : Int)) = false→True∧true = false)))))))))) (by kernel_rfl) ?_
 simp only [true_and, and_true, inR, Prod.exists, Prod.forall, and_assoc, exists_and_left, exists_eq_left', exists_eq_left, forall_eq, exists_const, forall_const, loopN, loopM, fa2, fas, fas2, dup1, dup2, dup3, dup4, ite_true, exhs, exhn, exhz, exho, exA, ex1, ex2, ex3, ex4, ex5, beqI, bneI, decide_true, Bool.true_and, decide_eq_true_eq, decide_eq_false_iff_not, ne_eq, Decidable.not_not]
 obtain ⟨hn, hb0⟩ := (show t.n < 4611686018427387904 ∧ ∀ i, i < t.n → iR (t.b i 0) ∧ iR (t.b i 1) from ht)
 have hb : ∀ i, i < t.n → -9223372036854775808 ≤ t.b i 0 ∧ t.b i 0 ≤ 9223372036854775807 ∧ -9223372036854775808 ≤ t.b i 1 ∧ t.b i 1 ≤ 9223372036854775807 := fun i hi => ⟨(hb0 i hi).1.1, (hb0 i hi).1.2, (hb0 i hi).2.1, (hb0 i hi).2.2⟩
 refine exMd ⟨hn, hb, hp.1, hp.2, exMd ⟨hn, hb, hp.1, hp.2, fun h => absurd rfl h, fun _ => ⟨fun h => (by simp at h), fun _ => ⟨fun h => absurd rfl h, fun _ => exTn ⟨hn, hb, exTn ⟨hn, hb, fun h => absurd rfl h, fun _ => exTn ⟨hn, hb, exTn ⟨hn, hb, is34, t, hn, hb, rfl, rfl, rfl, fun _ _ => ⟨rfl, rfl⟩, rfl, rfl, fun d hd => ⟨fun h => absurd rfl h, fun _ => ⟨fun h => absurd rfl h, fun _ => ⟨fun e => ?_, fun e => ⟨fun e0 => ?_, fun e0 => ?_⟩⟩⟩⟩⟩⟩⟩⟩⟩⟩⟩⟩
 · obtain ⟨e1, e2⟩ := not_tk e
   have h0 := hd.no (by rw [e1]; exact fun h => (by cases h.1))
   have hm : mendE t = 23 := by unfold mendE; rw [if_neg (by rw [e1]; decide)]
   rw [h0, hm, e2]
   exact ⟨fun _ => ⟨fun _ => trivial, fun h => absurd rfl h⟩, fun h => absurd rfl h⟩
 · have hc := tk_of e
   have n0 : t.n = 0 := by omega
   have h0 := hd.no (by rw [n0]; exact fun h => absurd h.2 (Nat.lt_irrefl 0))
   have hm : mendE t = 4 := by unfold mendE; rw [if_pos hc, if_pos n0]
   rw [h0, hm, e]
   exact ⟨fun _ => ⟨fun _ => trivial, fun _ => ⟨fun _ => ⟨fun _ => trivial, fun h => absurd rfl h⟩, fun h => absurd rfl h⟩⟩, fun h => absurd rfl h⟩
 · have hc := tk_of e
   have T := tchk_ok hc
   have n0 : 0 < t.n := by omega
   obtain ⟨c1, c2, c3⟩ := hd.yes hc n0
   have wf := pcs_wf (BrOk.of T) T.few c1 c2
   have hm : mendE t = 0 := by unfold mendE; rw [if_pos hc, if_neg (by omega)]
   refine exMd ⟨hn, hb, wf.1, wf.2, fun _ => ⟨fun _ => ⟨fun _ => exTn ⟨T, fun _ => trivial, fun h => absurd ?_ h⟩, fun h => ?_⟩, fun h => absurd e h⟩, fun h => absurd hm h⟩
   · show ((pcsOf d).np : Int) = (fewT t : Nat)
     have : (pcsOf d).np = fewT t := c3
     omega
   · have h : mdB t (pcsOf d) = false := h
     rw [(md_of hc c1 c2).1] at h; cases h
end Go.Proofs.YtcfmdhlohahhcaaDoor
namespace Go.Sx
def shapeB (E : Env) : Nat → Nat → Bool
 | 0, _ => false
 | n + 1, t => match E.ty t with
   | some ti => match ti.kind with
     | .bool => true
     | .int _ => true
     | .str => true
     | .slice e => match E.ty e with
       | some te => Nat.ble 1 te.size && shapeB E n e
       | none => false
     | .struct fs => fields E (shapeB E n) 0 ti.size fs
     | .array m e => match E.ty e with
       | some te => Nat.beq (m * te.size) ti.size && Nat.ble 1 te.size && shapeB E n e
       | none => false
     | _ => false
   | none => false
where
 fields (E : Env) (p : Nat → Bool) (o size : Nat) : List (Nat × TypeId) → Bool
   | [] => Nat.beq o size
   | (fo, ft) :: fs => match E.ty ft with
     | some tf => Nat.beq fo o && p ft && fields E p (o + tf.size) size fs
     | none => false
def ShpK (K : Nat) (E : Env) : Nat → Nat → (Nat → CV) → Prop
 | 0, _, _ => False
 | n + 1, t, get => match E.ty t with
   | some ti => match ti.kind with
     | .bool => ∃ b, get 0 = .bool b
     | .int k => ∃ a, get 0 = .int k a ∧ inRange k a
     | .str => ∃ s : ByteArray, get 0 = .str s ∧ s.size ≤ K
     | .slice e => match E.ty e with
       | some te => ∃ len g, get 0 = .vs te.size len g ∧ len * te.bytes ≤ K ∧ ∀ i, i < len → ShpK K E n e (g i)
       | none => False
     | .struct fs => AllF (fun x => ShpK K E n x.2 (fun j => get (x.1 + j))) fs
     | .array m e => match E.ty e with
       | some te => ∀ i, i < m → ShpK K E n e (fun j => get (i * te.size + j))
       | none => False
     | _ => False
   | none => False
where
 AllF (p : Nat × TypeId → Prop) : List (Nat × TypeId) → Prop
   | [] => True
   | x :: l => p x ∧ AllF p l
theorem ShpK.AllF_congr {p q : Nat × TypeId → Prop} : ∀ {l : List (Nat × TypeId)}, (∀ x ∈ l, p x → q x) → ShpK.AllF p l → ShpK.AllF q l
 | [], _, _ => trivial
 | x :: _, h, h' => ⟨h x (by simp) h'.1, ShpK.AllF_congr (fun y hy => h y (by simp [hy])) h'.2⟩
section
variable {P : Program} {E : Env} {K : Nat}
theorem fields_mem {p : Nat → Bool} : ∀ {fs : List (Nat × TypeId)} {o size : Nat}, shapeB.fields E p o size fs = true → o ≤ size ∧ ∀ x ∈ fs, ∃ tf, E.ty x.2 = some tf ∧ p x.2 = true ∧ o ≤ x.1 ∧ x.1 + tf.size ≤ size
 | [], o, size, h => by
   obtain rfl := Nat.eq_of_beq_eq_true h
   exact ⟨Nat.le_refl _, fun x hx => by simp at hx⟩
 | (fo, ft) :: fs, o, size, h => by
   simp only [shapeB.fields] at h
   split at h
   · rename_i tf htf
     simp only [Bool.and_eq_true] at h
     obtain ⟨⟨h1, h2⟩, h3⟩ := h
     obtain rfl := Nat.eq_of_beq_eq_true h1
     obtain ⟨h4, h5⟩ := fields_mem h3
     refine ⟨by omega, fun x hx => ?_⟩
     rcases List.mem_cons.1 hx with rfl | hx
     · exact ⟨tf, htf, h2, Nat.le_refl _, h4⟩
     · obtain ⟨tg, a1, a2, a3, a4⟩ := h5 x hx
       exact ⟨tg, a1, a2, by omega, a4⟩
   · cases h
theorem ShpK.congr (hT : TabOk P E) : ∀ {n t : Nat} {ti : TI} {g g' : Nat → CV}, E.ty t = some ti → shapeB E n t = true → (∀ j, j < ti.size → g j = g' j) → ShpK K E n t g → ShpK K E n t g'
 | 0, _, _, _, _, _, h, _, _ => by simp [shapeB] at h
 | n + 1, t, ti, g, g', ht, hs, he, h => by
   obtain ⟨hF, _⟩ := hT t ti ht
   obtain ⟨i, d, z, hF⟩ := tabTI_spec hF
   simp only [shapeB, ht] at hs
   simp only [ShpK, ht] at h ⊢
   have one : ti.kind.isAgg = false → g 0 = g' 0 := fun hk => he 0 (by have := hF.one hk; omega)
   cases hk : ti.kind with
   | bool => rw [hk] at h; simp only at h ⊢; rw [← one (by rw [hk]; rfl)]; exact h
   | int k => rw [hk] at h; simp only at h ⊢; rw [← one (by rw [hk]; rfl)]; exact h
   | str => rw [hk] at h; simp only at h ⊢; rw [← one (by rw [hk]; rfl)]; exact h
   | slice e => rw [hk] at h; simp only at h ⊢; rw [← one (by rw [hk]; rfl)]; exact h
   | struct fs =>
     rw [hk] at h hs
     simp only at h hs ⊢
     refine ShpK.AllF_congr (fun x hx hp => ?_) h
     obtain ⟨tf, h1, h2, h3, h4⟩ := (fields_mem hs).2 x hx
     exact ShpK.congr hT h1 h2 (fun j hj => he _ (by omega)) hp
   | array m e =>
     rw [hk] at h hs
     simp only at h hs ⊢
     cases hte : E.ty e with
     | none => rw [hte] at h; exact h.elim
     | some te =>
       rw [hte] at h hs
       simp only [Bool.and_eq_true] at h hs ⊢
       have hsz := Nat.eq_of_beq_eq_true hs.1.1
       intro i hi
       refine ShpK.congr hT hte hs.2 (fun j hj => he _ ?_) (h i hi)
       rw [← hsz]
       have : (i + 1) * te.size ≤ m * te.size := Nat.mul_le_mul_right _ hi
       rw [Nat.add_mul, Nat.one_mul] at this
       omega
   | ptr => rw [hk] at hs; cases hs
   | map k v => rw [hk] at hs; cases hs
   | func => rw [hk] at hs; cases hs
   | other => rw [hk] at hs; cases hs
variable {H : Type} {enc : TypeId × Value → H} {w : World} {held : Bool}
theorem add_none (b o i : Nat) : (⟨b, o, none⟩ : Addr).add i = ⟨b, o + i, none⟩ := by
 unfold Addr.add
 split
 · rename_i h; subst h; rfl
 · rfl
theorem weightsAll_mem {e : TypeId} : ∀ {l : List (DataW H)} {d : DataW H}, d ∈ l → ∀ x ∈ d.weights P e, x ∈ DataW.weightsAll P e l
 | [], _, h, _, _ => by cases h
 | y :: l, d, h, x, hx => by
   simp only [DataW.weightsAll, List.mem_append]
   rcases List.mem_cons.1 h with rfl | h
   · exact .inl hx
   · exact .inr (weightsAll_mem h x hx)
theorem fields_shape {n : Nat} {cs : List Value} {w : World} (ih : ∀ {t : Nat} {ti : TI} {fuel : Nat} {cs : List Value} {x : DataW H × List MemPlace}, E.ty t = some ti → shapeB E n t = true →
     DataW.trod enc P w 0 (fun _ => true) held fuel t cs = some x → (∀ y ∈ x.1.weights P t, y ≤ K) → cs.length = ti.size ∧ ∃ get, (∀ j u, cs[j]? = some u → RP (fun b => b < w.heap.size) w (get j) u) ∧ ShpK K E n t get)
   {fuel : Nat} (hcell : ∀ t tf, E.ty t = some tf → P.cellsOf t = tf.size) : ∀ {fs : List Field} {xs : List (DataW H × List MemPlace)} {o size : Nat}, (hT : TabOk P E) → shapeB.fields E (shapeB E n) o size (fs.map fun f => (f.offset, f.type)) = true →
     xs.length = fs.length → (∀ (i : Nat) (f : Field), fs[i]? = some f → DataW.trod enc P w 0 (fun _ => true) held fuel f.type ((cs.drop f.offset).take (P.cellsOf f.type)) = xs[i]?) →
     (∀ y ∈ DataW.weightsEach P (fs.map (·.type)) (xs.map (·.1)), y ≤ K) → cs.length = size →
     ∃ get : Nat → CV, (∀ j u, o ≤ j → cs[j]? = some u → RP (fun b => b < w.heap.size) w (get j) u) ∧ ShpK.AllF (fun x => ShpK K E n x.2 (fun j => get (x.1 + j))) (fs.map fun f => (f.offset, f.type))
 | [], xs, o, size, hT, hf, hl, ht, hw, hcs => by
   obtain rfl := Nat.eq_of_beq_eq_true hf
   refine ⟨fun _ => .any, fun j u hj hu => ?_, trivial⟩
   have := (List.getElem?_eq_some_iff.1 hu).1
   omega
 | f :: fs, [], o, size, hT, hf, hl, ht, hw, hcs => by simp at hl
 | f :: fs, x :: xs, o, size, hT, hf, hl, ht, hw, hcs => by
   simp only [List.map_cons, shapeB.fields] at hf
   split at hf
   · rename_i tf htf
     simp only [Bool.and_eq_true] at hf
     obtain ⟨⟨h1, h2⟩, h3⟩ := hf
     have h1 := Nat.eq_of_beq_eq_true h1
     subst h1
     simp only [List.map_cons, DataW.weightsEach, List.mem_append] at hw
     have h0 := ht 0 f rfl
     obtain ⟨hlen, gf, hg1, hg2⟩ := ih htf h2 (h0.trans rfl) (fun y hy => hw y (.inl hy))
     obtain ⟨gr, hr1, hr2⟩ := fields_shape ih hcell (fs := fs) (xs := xs) (o := f.offset + tf.size) hT h3 (by simpa using hl) (fun i g hi => by simpa using ht (i + 1) g (by simpa using hi)) (fun y hy => hw y (.inr hy)) hcs
     refine ⟨fun j => if j < f.offset + tf.size then gf (j - f.offset) else gr j, fun j u hj hu => ?_, ?_, ?_⟩
     · by_cases e : j < f.offset + tf.size
       · simp only [if_pos e]
         refine hg1 _ u ?_
         rw [hcell _ _ htf, List.getElem?_take_of_lt (by omega), List.getElem?_drop]
         rw [show f.offset + (j - f.offset) = j by omega]; exact hu
       · simp only [if_neg e]
         exact hr1 j u (by omega) hu
     · refine ShpK.congr hT htf h2 (fun j hj => ?_) hg2
       show gf j = if f.offset + j < f.offset + tf.size then gf (f.offset + j - f.offset) else gr (f.offset + j)
       rw [if_pos (by omega)]; congr 1; omega
     · refine ShpK.AllF_congr (fun y hy hp => ?_) hr2
       obtain ⟨ty, a1, a2, a3, a4⟩ := (fields_mem h3).2 y hy
       refine ShpK.congr hT a1 a2 (fun j hj => ?_) hp
       show gr (y.1 + j) = if y.1 + j < f.offset + tf.size then gf (y.1 + j - f.offset) else gr (y.1 + j)
       rw [if_neg (by omega)]
   · cases hf
theorem TabOk.cells (hT : TabOk P E) {t : Nat} {ti : TI} (ht : E.ty t = some ti) : P.cellsOf t = ti.size ∧ P.bytesOf t = ti.bytes := by
 obtain ⟨i, d, z, hF⟩ := tabTI_spec (hT t ti ht).1
 simp [Program.cellsOf, Program.bytesOf, hF.info, hF.size, hF.bytes]
theorem trod_shape (hT : TabOk P E) : ∀ {n t : Nat} {ti : TI} {fuel : Nat} {cs : List Value} {x : DataW H × List MemPlace}, E.ty t = some ti → shapeB E n t = true →
   DataW.trod enc P w 0 (fun _ => true) held fuel t cs = some x → (∀ y ∈ x.1.weights P t, y ≤ K) → cs.length = ti.size ∧ ∃ get, (∀ j u, cs[j]? = some u → RP (fun b => b < w.heap.size) w (get j) u) ∧ ShpK K E n t get
 | 0, _, _, _, _, _, _, h, _, _ => by simp [shapeB] at h
 | n + 1, t, ti, fuel, cs, x, ht, hs, h, hw => by
   obtain ⟨hF, hne⟩ := hT t ti ht
   obtain ⟨i, d, z, hF⟩ := tabTI_spec hF
   have hu := hF.und
   simp only [shapeB, ht] at hs
   have one : ∀ (v : Value) (y : CV), ti.kind.isAgg = false → RP (fun b => b < w.heap.size) w y v → [v].length = ti.size ∧ ∀ (j : Nat) (u : Value), [v][j]? = some u → RP (fun b => b < w.heap.size) w ((fun _ => y) j) u := fun v y hk hr => by
     refine ⟨by have := hF.one hk; simp [this], fun j u hj => ?_⟩
     cases j with
     | zero => simp at hj; subst hj; exact hr
     | succ j => simp at hj
   cases hk : ti.kind with
   | bool =>
     rw [hF.bool hk] at hu
     obtain ⟨b, rfl, rfl⟩ := DataW.trod_bool hu h
     obtain ⟨a1, a2⟩ := one (.bool b) (.bool b) (by rw [hk]; rfl) rfl
     exact ⟨a1, _, a2, by simp only [ShpK, ht, hk]; exact ⟨b, rfl⟩⟩
   | int k =>
     rw [hF.int hk] at hu
     obtain ⟨a, rfl, rfl, hwf⟩ := DataW.trod_int hu h
     obtain ⟨a1, a2⟩ := one (.int k a) (.int k a) (by rw [hk]; rfl) rfl
     refine ⟨a1, _, a2, ?_⟩
     simp only [ShpK, ht, hk]
     simp only [Lit.wf, Bool.and_eq_true, decide_eq_true_eq] at hwf
     exact ⟨a, rfl, hwf⟩
   | str =>
     rw [hF.str hk] at hu
     obtain ⟨s, rfl, rfl, hm⟩ := DataW.trod_string hu h
     obtain ⟨a1, a2⟩ := one (.string s) (.str s) (by rw [hk]; rfl) rfl
     refine ⟨a1, _, a2, ?_⟩
     simp only [ShpK, ht, hk]
     have := hw s.data.toList.length (by simp [DataW.weights])
     exact ⟨s, rfl, by simpa using this⟩
   | slice e =>
     rw [hk] at hs
     rw [hF.slice hk] at hu
     simp only at hs
     cases hte : E.ty e with
     | none => rw [hte] at hs; cases hs
     | some te =>
       rw [hte] at hs
       simp only [Bool.and_eq_true] at hs
       have hpos : 1 ≤ te.size := Nat.le_of_ble_eq_true hs.1
       obtain ⟨hc, hb⟩ := hT.cells hte
       rcases DataW.trod_slice hu h with ⟨rfl, rfl⟩ | ⟨a, len, cap, elems, rest, m, _, rfl, rfl, _, hlc, _, hlen, hel, _, _⟩
       · obtain ⟨a1, a2⟩ := one (.slice none 0 0) (.vs te.size 0 (fun _ _ => .any)) (by rw [hk]; rfl) ⟨none, 0, rfl, Nat.le_refl _, fun hh => absurd hh (Nat.lt_irrefl 0)⟩
         refine ⟨a1, _, a2, ?_⟩
         simp only [ShpK, ht, hk, hte]
         exact ⟨0, _, rfl, by simp, fun i hi => absurd hi (Nat.not_lt_zero i)⟩
       · simp only [DataW.weights, hu, List.mem_cons, List.mem_append] at hw
         have hwlen : len * te.bytes ≤ K := by
           refine Nat.le_trans (Nat.mul_le_mul_right _ ?_) (by have := hw _ (.inl rfl); rw [hb] at this; exact this)
           simp [hlen]
         have hE : ∀ i, i < len → ∃ g : Nat → CV, (∃ ecs : List Value, ecs.length = te.size ∧ (∀ j, j < te.size → w.cell? ((a.add (i * te.size)).add j) = ecs[j]?) ∧ ∀ j u, ecs[j]? = some u → RP (fun b => b < w.heap.size) w (g j) u) ∧ ShpK K E n e g := fun i hi => by
           have h1 := hel i hi
           have hi' : i < elems.length := by omega
           rw [List.getElem?_eq_getElem hi'] at h1
           simp only [Option.bind_eq_some_iff] at h1
           obtain ⟨ecs, h2, h3⟩ := h1
           obtain ⟨h4, h5, h6⟩ := World.cells?_some h2
           obtain ⟨h7, g, h8, h9⟩ := trod_shape hT hte hs.2 h3 (fun y hy => hw y (.inr (.inl (weightsAll_mem (List.mem_map.2 ⟨elems[i], List.getElem_mem hi', rfl⟩) y hy))))
           exact ⟨g, ⟨ecs, h7, fun j hj => by rw [← hc]; exact h6 j (by rw [hc]; exact hj), h8⟩, h9⟩
         have hG : ∃ g : Nat → Nat → CV, ∀ i, i < len → (∃ ecs : List Value, ecs.length = te.size ∧ (∀ j, j < te.size → w.cell? ((a.add (i * te.size)).add j) = ecs[j]?) ∧ ∀ j u, ecs[j]? = some u → RP (fun b => b < w.heap.size) w (g i j) u) ∧ ShpK K E n e (g i) := by
           refine ⟨fun i => if hi : i < len then Classical.choose (hE i hi) else fun _ => .any, fun i hi => ?_⟩
           simp only [dif_pos hi]
           exact Classical.choose_spec (hE i hi)
         obtain ⟨g, hg⟩ := hG
         have hr : RP (fun b => b < w.heap.size) w (.vs te.size len g) (.slice (some a) len cap) := by
           refine ⟨some a, cap, rfl, hlc, fun hl0 => ?_⟩
           obtain ⟨⟨ecs, e1, e2, _⟩, _⟩ := hg 0 hl0
           have e3 := e2 0 (by omega)
           have e4 : 0 < ecs.length := by omega
           rw [List.getElem?_eq_getElem e4] at e3
           have hsp : a.spot = none := by simpa [Addr.add] using World.cell?_spot e3
           obtain ⟨b, off, sp⟩ := a
           simp only at hsp; subst hsp
           have hblk : b < w.heap.size := by
             rw [add_none, add_none] at e3
             simp only [World.cell?] at e3
             cases hh : w.heap[b]? with
             | none => rw [hh] at e3; cases e3
             | some o => exact (Array.getElem?_eq_some_iff.1 hh).1
           refine ⟨b, off, rfl, hblk, fun i hi j hj => ?_⟩
           obtain ⟨⟨ecs, e1, e2, e5⟩, _⟩ := hg i hi
           have e6 := e2 j hj
           have e7 : j < ecs.length := by omega
           rw [List.getElem?_eq_getElem e7] at e6
           refine ⟨ecs[j], ?_, e5 j _ (List.getElem?_eq_getElem e7)⟩
           rw [add_none, add_none, Nat.add_assoc] at e6
           exact e6
         obtain ⟨a1, a2⟩ := one _ _ (by rw [hk]; rfl) hr
         refine ⟨a1, _, a2, ?_⟩
         simp only [ShpK, ht, hk, hte]
         exact ⟨len, g, rfl, hwlen, fun i hi => (hg i hi).2⟩
   | struct l =>
     rw [hk] at hs
     simp only at hs
     obtain ⟨fs, rfl, rfl, _⟩ := hF.struct hk
     obtain ⟨xs, m, _, rfl, hcl, hxl, hx⟩ := DataW.trod_struct hu h
     rw [(hT.cells ht).1] at hcl
     simp only [DataW.weights, hu] at hw
     obtain ⟨get, g1, g2⟩ := fields_shape (cs := cs) (fun a b c d => trod_shape hT a b c d) (fun t tf h => (hT.cells h).1) (fs := fs.toList) (xs := xs) hT hs (by simpa using hxl) (fun i f hi => hx i f (by simpa using hi)) hw hcl
     refine ⟨hcl, get, fun j u hu => g1 j u (Nat.zero_le _) hu, ?_⟩
     simp only [ShpK, ht, hk]
     exact g2
   | array m e =>
     rw [hk] at hs
     simp only at hs
     obtain ⟨rfl, _⟩ := hF.array hk
     cases hte : E.ty e with
     | none => rw [hte] at hs; cases hs
     | some te =>
       rw [hte] at hs
       simp only [Bool.and_eq_true] at hs
       have hsz := Nat.eq_of_beq_eq_true hs.1.1
       have hpos : 1 ≤ te.size := Nat.le_of_ble_eq_true hs.1.2
       obtain ⟨hc, _⟩ := hT.cells hte
       obtain ⟨xs, k, _, rfl, hcl, hxl, hx⟩ := DataW.trod_array hu h
       rw [(hT.cells ht).1] at hcl
       simp only [DataW.weights, hu] at hw
       have hE : ∀ i, i < m → ∃ g : Nat → CV, (∀ j u, j < te.size → cs[i * te.size + j]? = some u → RP (fun b => b < w.heap.size) w (g j) u) ∧ ShpK K E n e g := fun i hi => by
         have h1 := hx i hi
         have hi' : i < xs.length := by omega
         rw [List.getElem?_eq_getElem hi'] at h1
         obtain ⟨h7, g, h8, h9⟩ := trod_shape hT hte hs.2 h1 (fun y hy => hw y (weightsAll_mem (List.mem_map.2 ⟨xs[i], List.getElem_mem hi', rfl⟩) y hy))
         refine ⟨g, fun j u hj hu => h8 j u ?_, h9⟩
         rw [hc, List.getElem?_take_of_lt hj, List.getElem?_drop]; exact hu
       have hG : ∃ g : Nat → Nat → CV, ∀ i, i < m → (∀ j u, j < te.size → cs[i * te.size + j]? = some u → RP (fun b => b < w.heap.size) w (g i j) u) ∧ ShpK K E n e (g i) := by
         refine ⟨fun i => if hi : i < m then Classical.choose (hE i hi) else fun _ => .any, fun i hi => ?_⟩
         simp only [dif_pos hi]
         exact Classical.choose_spec (hE i hi)
       obtain ⟨g, hg⟩ := hG
       refine ⟨hcl, fun j => g (j / te.size) (j % te.size), fun j u hj => ?_, ?_⟩
       · have hjl := (List.getElem?_eq_some_iff.1 hj).1
         rw [hcl, ← hsz] at hjl
         have hq : j / te.size < m := (Nat.div_lt_iff_lt_mul (by omega)).2 hjl
         refine (hg _ hq).1 _ u (Nat.mod_lt _ (by omega)) ?_
         rw [Nat.mul_comm, Nat.div_add_mod]; exact hj
       · simp only [ShpK, ht, hk, hte]
         intro i hi
         refine ShpK.congr hT hte hs.2 (fun j hj => ?_) (hg i hi).2
         have e1 : (i * te.size + j) / te.size = i := by
           rw [Nat.mul_comm, Nat.mul_add_div (by omega), Nat.div_eq_of_lt hj, Nat.add_zero]
         have e2 : (i * te.size + j) % te.size = j := by
           rw [Nat.mul_comm, Nat.mul_add_mod, Nat.mod_eq_of_lt hj]
         rw [e1, e2]
   | ptr => rw [hk] at hs; cases hs
   | map k v => rw [hk] at hs; cases hs
   | func => rw [hk] at hs; cases hs
   | other => exact absurd hk hne
open Go.RowKit Go.ChangeShapes Go.WideShapes
theorem Evo.below {Z Z' : Nat → Prop} {w w' : World} (h : Evo (fun _ => False) Z w Z' w') : Go.RowKit.Below w.heap.size w w' :=
 ⟨h.os, h.tape, h.output, h.size, fun b hb => h.same b hb (fun hh => hh)⟩
def argTys (P : Program) (ts : List Nat) : Bool := ts.all fun t => P.readableRec t && decide (t < P.types.size)
theorem below_all (hl : laidOutB P = true) {W W' : World} (hb : Go.RowKit.Below W.heap.size W W') : ∀ {ts : List Nat} {vs : List Value} {ds : List (DataW H)} {ps : List MemPlace}, argTys P ts = true →
   DataW.TrodAll enc P W 0 (fun _ => true) true ts vs ds ps → (∀ x ∈ ps, x.block < W.heap.size) → DataW.TrodAll enc P W' 0 (fun b => decide (b < W.heap.size)) true ts vs ds ps
 | [], [], [], _, _, h, _ => h
 | [], [], _ :: _, _, _, h, _ => h.elim
 | [], _ :: _, _, _, _, h, _ => h.elim
 | _ :: _, [], _, _, _, h, _ => h.elim
 | _ :: _, _ :: _, [], _, _, h, _ => h.elim
 | t :: ts, v :: vs, d :: ds, ps, ha, h, hlt => by
   obtain ⟨p, q, h1, h2, rfl⟩ := h
   simp only [argTys, List.all_cons, Bool.and_eq_true, decide_eq_true_eq] at ha
   exact ⟨p, q, Below.trod hl ha.1.1 ha.1.2 h1 hb (fun x hx => hlt x (by simp [hx])), below_all hl hb (by simpa [argTys] using ha.2) h2 (fun x hx => hlt x (by simp [hx])), rfl⟩
theorem post_true {f : Func} {s : ChangeSpec} (hl : laidOutB P = true) {b : Nat} (hres : f.resultTypes = #[b]) (hb : P.underlying b = some .bool) (hargs : argTys P f.params.toList = true) (hvars : s.vars = [])
   {W W' : World} {args : Array Value} {ds gs : List (DataW H)} {before : List MemPlace} (hW : DataW.Whole enc P f.params.toList s.vars false W args.toList ds gs before)
   (hs : s.fn H (ds ++ gs) = { results := [.lit (.bool true)], args := ds }) (ev : Go.RowKit.Below W.heap.size W W') : s.post enc P f false true false false W args (.bool true) W' := by
 have hlt := hW.lt
 have hW' := hW
 obtain ⟨p, q, hA, hV, rfl, hfz, hnd⟩ := hW
 have hV' : DataW.TrodVars enc P W (fun _ => true) [] gs q := by rw [hvars] at hV; exact hV
 obtain ⟨rfl, rfl⟩ := trodVars_none hV'
 refine ⟨ds, [], p ++ [], [], p, [], hW', ?_, ?_, ?_, ev.frame _, fun h => by cases h⟩
 · rw [hs, hres]; exact trodAll_mk1 (shut_bool hb true)
 · rw [hs]; exact below_all hl ev hargs hA (fun x hx => hlt x (by simp [hx]))
 · rw [hs, hvars]; rfl
theorem okWide_one {r : Reach} {base : Nat} {t : TypeId} {v : Value} (h : Value.okWide P w r base t v) (hd : ∀ d, P.underlying t = some d → (∀ fs, d ≠ .struct fs) ∧ ∀ n e, d ≠ .array n e) : v.cells = #[v] := by
 cases v with
 | agg cs =>
   exfalso
   unfold Value.okWide at h
   split at h
   · rename_i fs hu; exact (hd _ hu).1 _ rfl
   · rename_i n e hu; exact (hd _ hu).2 _ _ rfl
   · unfold Cell.okWide at h
     split at h
     all_goals first
       | (rename_i h1; cases h1; done)
       | (rename_i h1 _; cases h1; done)
       | skip
     all_goals (unfold Cell.ok at h; split at h <;> first | exact h.elim | (rename_i h1; cases h1))
 | _ => rfl
theorem okWide_agg {r : Reach} {base : Nat} {t : TypeId} {v : Value} (h : Value.okWide P w r base t v) {d : TypeDesc} (hu : P.underlying t = some d) (hd : (∃ fs, d = .struct fs) ∨ ∃ n e, d = .array n e) : ∃ cs, v = .agg cs := by
 unfold Value.okWide at h
 rcases hd with ⟨fs, rfl⟩ | ⟨n, e, rfl⟩
 · rw [hu] at h
   obtain ⟨cs, rfl, _⟩ := h; exact ⟨cs, rfl⟩
 · rw [hu] at h
   obtain ⟨cs, rfl, _⟩ := h; exact ⟨cs, rfl⟩
def AllShpK (K : Nat) (E : Env) (n : Nat) : List Nat → List TV → Prop
 | [], [] => True
 | t :: ts, v :: vs => (∃ ti get, E.ty t = some ti ∧ v = mkTV ti get ∧ ShpK K E n t get) ∧ AllShpK K E n ts vs
 | _, _ => False
theorem AllShpK.cons {E : Env} {n t : Nat} {ts : List Nat} {tvs : List TV} {ti : TI} (h : AllShpK K E n (t :: ts) tvs) (ht : E.ty t = some ti) : ∃ get rest, tvs = mkTV ti get :: rest ∧ ShpK K E n t get ∧ AllShpK K E n ts rest := by
 cases tvs with
 | nil => exact h.elim
 | cons v vs =>
   obtain ⟨⟨tj, get, h1, h2, h3⟩, h4⟩ := h
   obtain rfl := Option.some.inj (h1.symm.trans ht)
   exact ⟨get, vs, by rw [h2], h3, h4⟩
theorem AllShpK.nil {E : Env} {n : Nat} {tvs : List TV} (h : AllShpK K E n [] tvs) : tvs = [] := by
 cases tvs with
 | nil => rfl
 | cons v vs => exact h.elim
def allShB (E : Env) (n : Nat) (ts : List Nat) : Bool := ts.all fun t => (E.ty t).isSome && shapeB E n t
theorem shape_val (hT : TabOk P E) {n t : Nat} {ti : TI} {r : Reach} {base : Nat} {v : Value} {d : DataW H} {ps : List MemPlace} (ht : E.ty t = some ti) (hs : shapeB E n t = true) (hval : Value.okWide P w r base t v)
   (hd : DataW.Trod enc P w 0 (fun _ => true) true t v d ps) (hw : ∀ y ∈ d.weights P t, y ≤ K) : ∃ get, RT (fun _ => .no) (fun b => b < w.heap.size) w (mkTV ti get) v ∧ ShpK K E n t get := by
 obtain ⟨fuel, hf⟩ := hd
 obtain ⟨hlen, get, h1, h2⟩ := trod_shape hT ht hs hf hw
 refine ⟨get, ?_, h2⟩
 obtain ⟨i, ds, z, hF⟩ := tabTI_spec (hT t ti ht).1
 have hkind := hF.kind
 unfold mkTV TI.isAgg
 have hagg : (∃ fs, ds = .struct fs) ∨ (∃ n e, ds = .array n e) ∨ ((∀ fs, ds ≠ .struct fs) ∧ ∀ n e, ds ≠ .array n e) := by
   cases ds with
   | struct fs => exact .inl ⟨_, rfl⟩
   | array n e => exact .inr (.inl ⟨_, _, rfl⟩)
   | _ => exact .inr (.inr ⟨fun _ h => by (cases h), fun _ _ h => by (cases h)⟩)
 cases hk : ti.kind.isAgg with
 | true =>
   simp only [if_true]
   obtain ⟨cs, rfl⟩ := okWide_agg hval hF.und (by
     rcases hagg with h | h | h
     · exact .inl h
     · exact .inr h
     · exfalso
       cases e : ti.kind with
       | struct l => obtain ⟨fs, e1, _⟩ := hF.struct e; exact h.1 _ e1
       | array m e' => exact h.2 _ _ (hF.array e).1
       | _ => rw [e] at hk; cases hk)
   refine ⟨cs, rfl, by simpa [Value.cells] using hlen, fun j hj => ?_⟩
   have hj' : j < cs.size := by have : cs.size = ti.size := by simpa [Value.cells] using hlen
                                omega
   exact ⟨cs[j], by simp [hj'], RC.of_RP (h1 j _ (by simp [Value.cells, hj']))⟩
 | false =>
   simp only [Bool.false_eq_true, if_false]
   have hc := okWide_one hval (fun d' hd' => by
     obtain rfl : d' = ds := Option.some.inj (hd'.symm.trans hF.und)
     rcases hagg with ⟨fs, rfl⟩ | ⟨m, e, rfl⟩ | h
     · exfalso
       simp only [kindOf] at hkind
       split at hkind
       · injection hkind with hkind; rw [← hkind] at hk; cases hk
       · injection hkind with hkind; exact (hT t ti ht).2 hkind.symm
     · exfalso
       simp only [kindOf] at hkind
       split at hkind
       · injection hkind with hkind; rw [← hkind] at hk; cases hk
       · injection hkind with hkind; exact (hT t ti ht).2 hkind.symm
     · exact h)
   exact RC.of_RP (h1 0 v (by rw [hc]; rfl))
theorem shape_all (hT : TabOk P E) {n : Nat} {r : Reach} {base : Nat} : ∀ {ts : List Nat} {vs : List Value} {ds : List (DataW H)} {ps : List MemPlace}, allShB E n ts = true → (∀ (j : Nat) t v, ts[j]? = some t → vs[j]? = some v → Value.okWide P w r base t v) →
   DataW.TrodAll enc P w 0 (fun _ => true) true ts vs ds ps → (∀ y ∈ DataW.weightsEach P ts ds, y ≤ K) → ∃ tvs, AllShpK K E n ts tvs ∧ RL (fun _ => .no) (fun b => b < w.heap.size) w tvs vs ∧ ds.length = ts.length
 | [], [], [], _, _, _, _, _ => ⟨[], trivial, trivial, rfl⟩
 | [], [], _ :: _, _, _, _, h, _ => h.elim
 | [], _ :: _, _, _, _, _, h, _ => h.elim
 | _ :: _, [], _, _, _, _, h, _ => h.elim
 | _ :: _, _ :: _, [], _, _, _, h, _ => h.elim
 | t :: ts, v :: vs, d :: ds, ps, ha, hv, h, hw => by
   obtain ⟨p, q, h1, h2, rfl⟩ := h
   simp only [allShB, List.all_cons, Bool.and_eq_true] at ha
   obtain ⟨ti, hti⟩ := Option.isSome_iff_exists.1 ha.1.1
   simp only [DataW.weightsEach, List.mem_append] at hw
   obtain ⟨get, a1, a2⟩ := shape_val hT hti ha.1.2 (hv 0 t v rfl rfl) h1 (fun y hy => hw y (.inl hy))
   obtain ⟨tvs, b1, b2, b3⟩ := shape_all hT (by simpa [allShB] using ha.2) (fun j t' v' e1 e2 => hv (j + 1) t' v' (by simpa using e1) (by simpa using e2)) h2 (fun y hy => hw y (.inr hy))
   exact ⟨mkTV ti get :: tvs, ⟨⟨ti, get, hti, rfl, a2⟩, b1⟩, ⟨a1, b2⟩, by simp [b3]⟩
theorem law_calls (hT : TabOk P E) {f : FuncId} {fn : Func} {s : ChangeSpec} {n : Nat} (hsh : allShB E n fn.params.toList = true) (hl : laidOutB P = true) {b : Nat} (hres : fn.resultTypes = #[b]) (hb : P.underlying b = some .bool)
   (hargs : argTys P fn.params.toList = true) (hvars : s.vars = []) (hs : ∀ ds : List (DataW H), ds.length = fn.params.size → s.fn H ds = { results := [.lit (.bool true)], args := ds })
   (hq : ∀ tvs, AllShpK K E n fn.params.toList tvs → CallQ P E f tvs [.v (.c (.bool true))])
   {W : World} {r : Reach} {base : Nat} {args : Array Value} {ds gs : List (DataW H)} {before : List MemPlace}
   (hval : ∀ (j : Nat) t v, fn.params[j]? = some t → args[j]? = some v → Value.okWide P W r base t v)
   (hW : DataW.Whole enc P fn.params.toList s.vars false W args.toList ds gs before)
   (hwt : (DataW.weightsEach P (fn.params.toList ++ s.plain.varTypes P) (ds ++ gs)).all (· ≤ K) = true)
   (hgl : GlOk E (fun b => b < W.heap.size) W) :
   Calls P f args W fun e W' => ∃ v, e = .returned v ∧ s.post enc P fn false true false false W args v W' := by
 have hW' := hW
 obtain ⟨p, q, hA, hV, rfl, hfz, hnd⟩ := hW
 have hV' : DataW.TrodVars enc P W (fun _ => true) [] gs q := by rw [hvars] at hV; exact hV
 obtain ⟨rfl, rfl⟩ := trodVars_none hV'
 have hvt : s.plain.varTypes P = [] := by
   unfold DataSpec.varTypes ChangeSpec.plain
   rw [hvars]; rfl
 simp only [hvt, List.append_nil, List.all_eq_true, decide_eq_true_eq] at hwt
 obtain ⟨tvs, a1, a2, a3⟩ := shape_all hT hsh (fun j t v e1 e2 => hval j t v (by simpa using e1) (by simpa using e2)) hA hwt
 have hc := hq tvs a1 (fun b => b < W.heap.size) W args.toList ⟨fun _ _ h => by (cases h), fun _ _ _ _ h => by (cases h), fun _ _ _ _ _ _ _ h => by (cases h), fun b hb => hb, fun _ _ => rfl, hgl⟩ a2
 rw [Array.toArray_toList] at hc
 refine (callsIn_wide.1 hc).mono fun e W' hp => ?_
 obtain ⟨val, β', Z', rfl, _, h3, h4, _, _⟩ := hp
 obtain rfl : val = .bool true := h3
 exact ⟨_, rfl, post_true hl hres hb hargs hvars hW' (by rw [List.append_nil]; exact hs _ (by simpa using a3)) h4.below⟩
end
end Go.Sx
namespace Go.Proofs.YtcfmdhlohahhcaaDoor
open Go Go.Sx Nm Go.ChangeShapes Go.WideShapes Go.ChangeAt Go.RowKit
set_option maxRecDepth 100000
theorem own_knob : ownKnob Tryd.prog.godebug = none := by kernel_rfl
theorem g_east : Tryd.prog.globalNamed "drifter/nets.east" = some 0 := by kernel_rfl
theorem g_north : Tryd.prog.globalNamed "drifter/nets.north" = some 1 := by kernel_rfl
theorem g_none : Tryd.prog.globalNamed "drifter/nets.none" = some 2 := by kernel_rfl
theorem t_east : (Tryd.prog.globals[0]?).map (·.type) = some 109 := by kernel_rfl
theorem t_north : (Tryd.prog.globals[1]?).map (·.type) = some 109 := by kernel_rfl
theorem t_none : (Tryd.prog.globals[2]?).map (·.type) = some 88 := by kernel_rfl
def laidL : List (String × DataW Unit) := [("drifter/nets.east", Rows.laid_drifter_nets_east), ("drifter/nets.north", Rows.laid_drifter_nets_north), ("drifter/nets.none", Rows.laid_drifter_nets_none)]
theorem door_met (os : Os) (args : Array Value) : laidMetH Tryd.prog laidL ((World.doorLaid Tryd.prog 600 os).forCall (fun _ _ => 0) ⟨#[], args, []⟩).memory :=
 laidMetH_of_parts3 (fuel := 8) (laidMet_of_run' 8 (by kernel_rfl) (by kernel_rfl)) (by kernel_rfl) (by kernel_rfl)
def isFn : Option TypeDesc → Bool
 | some (.func _ _ _) => true
 | _ => false
theorem fn_und {o : Option TypeDesc} (h : isFn o = true) : ∃ ps rs va, o = some (.func ps rs va) := by
 unfold isFn at h
 split at h
 · exact ⟨_, _, _, rfl⟩
 · cases h
theorem m109_flds : fldsOf (Tryd.prog.underlying 109) = some [(105, 0, true), (105, 1, true), (106, 2, true), (107, 3, true)] := by kernel_rfl
theorem m109_und : ∃ fs, Tryd.prog.underlying 109 = some (.struct fs) ∧ fs.toList.map (fun f => (f.type, f.offset, f.name != "_")) = [(105, 0, true), (105, 1, true), (106, 2, true), (107, 3, true)] := by
 have h := m109_flds
 unfold fldsOf at h
 split at h
 · rename_i fs hu
   exact ⟨fs, hu, by injection h⟩
 · cases h
theorem f105 : isFn (Tryd.prog.underlying 105) = true := by kernel_rfl
theorem f106 : isFn (Tryd.prog.underlying 106) = true := by kernel_rfl
theorem f107 : isFn (Tryd.prog.underlying 107) = true := by kernel_rfl
theorem c105 : Tryd.prog.cellsOf 105 = 1 := by kernel_rfl
theorem c106 : Tryd.prog.cellsOf 106 = 1 := by kernel_rfl
theorem c107 : Tryd.prog.cellsOf 107 = 1 := by kernel_rfl
theorem c109 : Tryd.prog.cellsOf 109 = 4 := by kernel_rfl
def OneF (b : UInt8) (m : List UInt8) (f0 : Nat) : Prop := ((List.range Tryd.prog.funcs.size).filter fun f => (Tryd.prog.funcs[f]?).any (·.name.toUTF8.data.toList == b :: m)) = [f0]
def fnD (b : UInt8) (m : List UInt8) : DataW Unit := .iface "func" (.lit (.string (b :: m)))
theorem four {fs : Array Field} {a b c d : Nat × Nat × Bool} (h : fs.toList.map (fun f => (f.type, f.offset, f.name != "_")) = [a, b, c, d]) : ∃ w x y z : Field, fs[0]? = some w ∧ fs[1]? = some x ∧ fs[2]? = some y ∧ fs[3]? = some z ∧ w.type = a.1 ∧ w.offset = a.2.1 ∧ x.type = b.1 ∧ x.offset = b.2.1 ∧ y.type = c.1 ∧ y.offset = c.2.1 ∧ z.type = d.1 ∧ z.offset = d.2.1 ∧ fs.size = 4 := by
 obtain ⟨l⟩ := fs
 match l, h with
 | [w, x, y, z], h =>
   simp only [List.map_cons, List.map_nil, List.cons.injEq, and_true] at h
   obtain ⟨rfl, rfl, rfl, rfl⟩ := h
   exact ⟨w, x, y, z, rfl, rfl, rfl, rfl, rfl, rfl, rfl, rfl, rfl, rfl, rfl, rfl, rfl⟩
theorem list4 {α : Type} {l : List α} (h : l.length = 4) : ∃ a b c d, l = [a, b, c, d] := by
 match l, h with
 | [a, b, c, d], _ => exact ⟨a, b, c, d, rfl⟩
theorem side_cells {W : World} {g : Nat} {n : String} {b : UInt8} {m0 m1 m2 m3 : List UInt8} {f0 f1 f2 f3 : Nat} (hg : Tryd.prog.globalNamed n = some g) (ht : (Tryd.prog.globals[g]?).map (·.type) = some 109)
   (o0 : OneF b m0 f0) (o1 : OneF b m1 f1) (o2 : OneF b m2 f2) (o3 : OneF b m3 f3) (h : funcsAt Tryd.prog W n (.agg [fnD b m0, fnD b m1, fnD b m2, fnD b m3])) :
   W.cell? ⟨g, 0, none⟩ = some (.func (.func f0) #[] #[]) ∧ W.cell? ⟨g, 1, none⟩ = some (.func (.func f1) #[] #[]) ∧ W.cell? ⟨g, 2, none⟩ = some (.func (.func f2) #[] #[]) ∧ W.cell? ⟨g, 3, none⟩ = some (.func (.func f3) #[] #[]) := by
 obtain ⟨g', t, cs, fuel, p, hg', ht', hv, hd⟩ := h
 obtain rfl := Option.some.inj (hg.symm.trans hg')
 obtain rfl := Option.some.inj (ht.symm.trans ht')
 have hd' : DataW.trod (funcToken Tryd.prog) Tryd.prog W 0 (fun _ => true) true fuel 109 cs.toList = some (.agg [.held (b :: m0), .held (b :: m1), .held (b :: m2), .held (b :: m3)], p) := hd
 obtain ⟨fs, hu, hfs⟩ := m109_und
 obtain ⟨w, x, y, z, q0, q1, q2, q3, u0, v0, u1, v1, u2, v2, u3, v3, hsz⟩ := four hfs
 obtain ⟨xs, k, _, hx, hl, hlen, hf⟩ := DataW.trod_struct hu hd'
 rw [hsz] at hlen
 obtain ⟨y0, y1, y2, y3, rfl⟩ := list4 hlen
 rw [c109] at hl
 obtain ⟨a0, a1, a2, a3, ha⟩ := list4 hl
 simp only [List.map_cons, List.map_nil, Prod.mk.injEq, DataW.agg.injEq, List.cons.injEq, and_true] at hx
 obtain ⟨⟨e0, e1, e2, e3⟩, _⟩ := hx
 have k0 := hf 0 w q0
 have k1 := hf 1 x q1
 have k2 := hf 2 y q2
 have k3 := hf 3 z q3
 rw [u0, v0, ha] at k0
 rw [u1, v1, ha] at k1
 rw [u2, v2, ha] at k2
 rw [u3, v3, ha] at k3
 obtain ⟨d0, p0⟩ := y0
 obtain ⟨d1, p1⟩ := y1
 obtain ⟨d2, p2⟩ := y2
 obtain ⟨d3, p3⟩ := y3
 simp only at e0 e1 e2 e3
 subst e0 e1 e2 e3
 simp only [c105, c106, c107, List.drop_zero, List.drop_succ_cons, List.take_succ_cons, List.take_zero, List.getElem?_cons_zero, List.getElem?_cons_succ] at k0 k1 k2 k3
 obtain ⟨_, _, _, n105⟩ := fn_und f105
 obtain ⟨_, _, _, n106⟩ := fn_und f106
 obtain ⟨_, _, _, n107⟩ := fn_und f107
 obtain rfl := func_of_trod n105 o0 k0
 obtain rfl := func_of_trod n105 o1 k1
 obtain rfl := func_of_trod n106 o2 k2
 obtain rfl := func_of_trod n107 o3 k3
 have cell := fun i => World.var?_cell hg hv i
 have hc : cs = #[.func (.func f0) #[] #[], .func (.func f1) #[] #[], .func (.func f2) #[] #[], .func (.func f3) #[] #[]] := by
   cases cs; simpa using ha
 subst hc
 exact ⟨cell 0, cell 1, cell 2, cell 3⟩
theorem cell_lt {W : World} {g j : Nat} {v : Value} (h : W.cell? ⟨g, j, none⟩ = some v) : g < W.heap.size := by
 simp only [World.cell?] at h
 cases hh : W.heap[g]? with
 | none => rw [hh] at h; cases h
 | some o => exact (Array.getElem?_eq_some_iff.1 hh).1
theorem two_f {fs : Array Field} {a b : Nat × Nat × Bool} (h : fs.toList.map (fun f => (f.type, f.offset, f.name != "_")) = [a, b]) : ∃ w x : Field, fs[0]? = some w ∧ fs[1]? = some x ∧ w.type = a.1 ∧ w.offset = a.2.1 ∧ x.type = b.1 ∧ x.offset = b.2.1 ∧ fs.size = 2 := by
 obtain ⟨l⟩ := fs
 match l, h with
 | [w, x], h =>
   simp only [List.map_cons, List.map_nil, List.cons.injEq, and_true] at h
   obtain ⟨rfl, rfl⟩ := h
   exact ⟨w, x, rfl, rfl, rfl, rfl, rfl, rfl, rfl⟩
theorem list2 {α : Type} {l : List α} (h : l.length = 2) : ∃ a b, l = [a, b] := by
 match l, h with
 | [a, b], _ => exact ⟨a, b, rfl⟩
theorem none_cells {W : World} (h : laidMet Tryd.prog [("drifter/nets.none", Rows.laid_drifter_nets_none)] W) : W.cell? ⟨2, 0, none⟩ = some (.int .i64 (-1)) ∧ W.cell? ⟨2, 1, none⟩ = some (.int .i64 (-1)) := by
 obtain ⟨ps, ⟨g', t, cs, fuel, p, q, hg', ht', hv, hd, _⟩, _⟩ := h
 obtain rfl := Option.some.inj (g_none.symm.trans hg')
 obtain rfl := Option.some.inj (t_none.symm.trans ht')
 obtain ⟨fs, hu, hfs⟩ := m88_und
 obtain ⟨w, x, q0, q1, u0, v0, u1, v1, hsz⟩ := two_f hfs
 have hd' : DataW.trod (fun _ => ()) Tryd.prog W 0 (fun _ => true) false fuel 88 cs.toList = some (.agg [.lit (.int .i64 (-1)), .lit (.int .i64 (-1))], p) := hd
 obtain ⟨xs, k, _, hx, hl, hlen, hf⟩ := DataW.trod_struct hu hd'
 rw [hsz] at hlen
 obtain ⟨y0, y1, rfl⟩ := list2 hlen
 rw [m88_size] at hl
 obtain ⟨a0, a1, ha⟩ := list2 hl
 simp only [List.map_cons, List.map_nil, Prod.mk.injEq, DataW.agg.injEq, List.cons.injEq, and_true] at hx
 obtain ⟨⟨e0, e1⟩, _⟩ := hx
 have k0 := hf 0 w q0
 have k1 := hf 1 x q1
 rw [u0, v0, ha] at k0
 rw [u1, v1, ha] at k1
 obtain ⟨d0, p0⟩ := y0
 obtain ⟨d1, p1⟩ := y1
 simp only at e0 e1
 subst e0 e1
 simp only [m3_size, List.drop_zero, List.drop_succ_cons, List.take_succ_cons, List.take_zero, List.getElem?_cons_zero, List.getElem?_cons_succ] at k0 k1
 obtain ⟨n0, h0, h0', _⟩ := DataW.trod_int m3_und k0
 obtain ⟨n1, h1, h1', _⟩ := DataW.trod_int m3_und k1
 simp only [List.cons.injEq, and_true] at h0 h1
 subst h0 h1
 simp only [Prod.mk.injEq, DataW.lit.injEq, Lit.int.injEq, true_and] at h0' h1'
 obtain ⟨rfl, _⟩ := h0'
 obtain ⟨rfl, _⟩ := h1'
 have cell := fun i => World.var?_cell g_none hv i
 have hc : cs = #[.int .i64 (-1), .int .i64 (-1)] := by
   cases cs; simpa using ha
 subst hc
 exact ⟨cell 0, cell 1⟩
theorem east_cells {W : World} (h : laidMetH Tryd.prog laidL W) : W.cell? ⟨0, 0, none⟩ = some (.func (.func 119) #[] #[]) ∧ W.cell? ⟨0, 1, none⟩ = some (.func (.func 120) #[] #[]) ∧ W.cell? ⟨0, 2, none⟩ = some (.func (.func 122) #[] #[]) ∧ W.cell? ⟨0, 3, none⟩ = some (.func (.func 123) #[] #[]) :=
 side_cells (b := 100) (m0 := [114, 105, 102, 116, 101, 114, 47, 110, 101, 116, 115, 46, 101, 97, 115, 116, 36, 49]) (m1 := [114, 105, 102, 116, 101, 114, 47, 110, 101, 116, 115, 46, 101, 97, 115, 116, 36, 50]) (m2 := [114, 105, 102, 116, 101, 114, 47, 110, 101, 116, 115, 46, 101, 97, 115, 116, 36, 51]) (m3 := [114, 105, 102, 116, 101, 114, 47, 110, 101, 116, 115, 46, 101, 97, 115, 116, 36, 52]) g_east t_east (by unfold OneF; kernel_rfl) (by unfold OneF; kernel_rfl) (by unfold OneF; kernel_rfl) (by unfold OneF; kernel_rfl) (h.funcs (List.mem_cons_self ..))
theorem north_cells {W : World} (h : laidMetH Tryd.prog laidL W) : W.cell? ⟨1, 0, none⟩ = some (.func (.func 124) #[] #[]) ∧ W.cell? ⟨1, 1, none⟩ = some (.func (.func 125) #[] #[]) ∧ W.cell? ⟨1, 2, none⟩ = some (.func (.func 126) #[] #[]) ∧ W.cell? ⟨1, 3, none⟩ = some (.func (.func 127) #[] #[]) :=
 side_cells (b := 100) (m0 := [114, 105, 102, 116, 101, 114, 47, 110, 101, 116, 115, 46, 110, 111, 114, 116, 104, 36, 49]) (m1 := [114, 105, 102, 116, 101, 114, 47, 110, 101, 116, 115, 46, 110, 111, 114, 116, 104, 36, 50]) (m2 := [114, 105, 102, 116, 101, 114, 47, 110, 101, 116, 115, 46, 110, 111, 114, 116, 104, 36, 51]) (m3 := [114, 105, 102, 116, 101, 114, 47, 110, 101, 116, 115, 46, 110, 111, 114, 116, 104, 36, 52]) g_north t_north (by unfold OneF; kernel_rfl) (by unfold OneF; kernel_rfl) (by unfold OneF; kernel_rfl) (by unfold OneF; kernel_rfl) (h.funcs (List.mem_cons_of_mem _ (List.mem_cons_self ..)))
theorem gl_ok {W : World} (h : laidMetH Tryd.prog laidL W) : GlOk E0 (fun b => b < W.heap.size) W := by
 obtain ⟨a0, a1, a2, a3⟩ := east_cells h
 obtain ⟨b0, b1, b2, b3⟩ := north_cells h
 have hd : laidMet Tryd.prog [("drifter/nets.none", Rows.laid_drifter_nets_none)] W := by
   have e : (laidL.filter fun x => x.2.handleName?.isSome) = [("drifter/nets.east", Rows.laid_drifter_nets_east), ("drifter/nets.north", Rows.laid_drifter_nets_north)] := by kernel_rfl
   have e2 : (laidL.filter fun x => x.2.handleName?.isNone) = [("drifter/nets.none", Rows.laid_drifter_nets_none)] := by kernel_rfl
   unfold laidMetH at h
   rw [e, e2] at h
   exact h.1
 obtain ⟨c0, c1⟩ := none_cells hd
 intro g n get hg
 have hg' : gl0 g = some (n, get) := hg
 unfold gl0 at hg'
 split at hg'
 · injection hg' with hg'; injection hg' with e1 e2; subst e1; subst e2
   refine ⟨cell_lt a0, fun j hj => ?_⟩
   match j, hj with
   | 0, _ => exact ⟨_, a0, rfl, rfl, rfl⟩
   | 1, _ => exact ⟨_, a1, rfl, rfl, rfl⟩
   | 2, _ => exact ⟨_, a2, rfl, rfl, rfl⟩
   | 3, _ => exact ⟨_, a3, rfl, rfl, rfl⟩
 · injection hg' with hg'; injection hg' with e1 e2; subst e1; subst e2
   refine ⟨cell_lt b0, fun j hj => ?_⟩
   match j, hj with
   | 0, _ => exact ⟨_, b0, rfl, rfl, rfl⟩
   | 1, _ => exact ⟨_, b1, rfl, rfl, rfl⟩
   | 2, _ => exact ⟨_, b2, rfl, rfl, rfl⟩
   | 3, _ => exact ⟨_, b3, rfl, rfl, rfl⟩
 · injection hg' with hg'; injection hg' with e1 e2; subst e1; subst e2
   refine ⟨cell_lt c0, fun j hj => ?_⟩
   match j, hj with
   | 0, _ => exact ⟨_, c0, rfl⟩
   | 1, _ => exact ⟨_, c1, rfl⟩
 · cases hg'
end Go.Proofs.YtcfmdhlohahhcaaDoor
namespace Go.Proofs.YtcfmdhlohahhcaaDoor
open Go Go.Sx Nm Go.ChangeShapes Go.WideShapes Go.ChangeAt Go.RowKit
set_option maxRecDepth 100000
theorem fit_int {g : Nat → CV} {j : Nat} {a : Int} (e : g j = .int .i64 a) : fitCV (fun _ => .bad) (g j) (.int .i64 a) := by
 rw [e]; exact ⟨trivial, rfl⟩
theorem callQ_fit {P : Program} {E : Env} {f : FuncId} {tvs args : List TV} {rs : List RV} (hf : fitTVs tvs args) (h : CallQ P E f args rs) : CallQ P E f tvs rs :=
 fun Z w vs hs hr => h Z w vs hs (fitTVs_ok hf hr)
theorem laidOut : laidOutB Tryd.prog = true := by kernel_rfl
theorem bool_und : Tryd.prog.underlying 4 = some .bool := by kernel_rfl
end Go.Proofs.YtcfmdhlohahhcaaDoor
namespace Go.Proofs.YtcfmdhlohahhcaaDoor
open Go Go.Sx Nm Go.ChangeShapes Go.WideShapes Go.ChangeAt Go.RowKit
set_option maxRecDepth 100000
theorem ty54 : E0.ty 54 = some ⟨(.struct [(0, 3), (1, 3), (2, 52), (3, 3), (4, 3)]), 5, 56, [.int .i64 0, .int .i64 0, .nils, .int .i64 0, .int .i64 0]⟩ := rfl
theorem iR_of {a : Int} (h : inRange .i64 a) : iR a := h
theorem torn_ofK {K : Nat} (hK : K ≤ 140737488355328) {g : Nat → CV} (h : ShpK K E0 6 54 g) : ∃ b : Torn, b.wf ∧ fitTV (fun _ => .bad) (mkTV ⟨(.struct [(0, 3), (1, 3), (2, 52), (3, 3), (4, 3)]), 5, 56, [.int .i64 0, .int .i64 0, .nils, .int .i64 0, .int .i64 0]⟩ g) (tornTV b) := by
 obtain ⟨⟨w, h1, _⟩, ⟨hh, h2, _⟩, ⟨len, c, e, hl, hc⟩, ⟨m, h3, _⟩, ⟨k, h4, _⟩, _⟩ := h
 have hl : len * 16 ≤ K := hl
 have hx : ∀ i, ∃ a : Nat → Int, i < len → (c i 0 = .int .i64 (a 0) ∧ iR (a 0)) ∧ c i 1 = .int .i64 (a 1) ∧ iR (a 1) := fun i => by
   by_cases hi : i < len
   · obtain ⟨⟨a1, e1, r1⟩, ⟨a2, e2, r2⟩, _⟩ := hc i hi
     exact ⟨fun j => if j = 0 then a1 else a2, fun _ => ⟨⟨e1, iR_of r1⟩, e2, iR_of r2⟩⟩
   · exact ⟨fun _ => 0, fun h => absurd h hi⟩
 obtain ⟨f, hf⟩ := Classical.axiomOfChoice hx
 refine ⟨⟨w, hh, len, f, m, k⟩, ⟨by show len < 4611686018427387904; omega, fun i hi => ⟨(hf i hi).1.2, (hf i hi).2.2⟩⟩, trivial, ⟨⟨⟨⟨trivial, ?_⟩, ?_⟩, ?_⟩, ?_⟩, ?_⟩
 · show fitCV _ (g 0) _; exact fit_int h1
 · show fitCV _ (g 1) _; exact fit_int h2
 · show fitCV _ (g 2) _
   have e : g 2 = _ := e
   rw [e]
   refine ⟨trivial, trivial, rfl, fun i hi => ?_⟩
   obtain ⟨⟨a1, _⟩, a2, _⟩ := hf i hi
   refine ⟨⟨trivial, ?_⟩, ?_⟩
   · show fitP (c i 0) _; rw [a1]; rfl
   · show fitP (c i 1) _; rw [a2]; rfl
 · show fitCV _ (g 3) _; exact fit_int h3
 · show fitCV _ (g 4) _; exact fit_int h4
theorem want54 : Tryd.prog.wantsStandIn 54 = false := by kernel_rfl
end Go.Proofs.YtcfmdhlohahhcaaDoor
namespace Go.Proofs.YtcfmdhlohahhcaaDoor
open Go Go.Sx Nm Go.ChangeShapes Go.WideShapes Go.ChangeAt Go.RowKit
set_option maxRecDepth 100000
theorem bulk_pos {H : Type} (d : DataW H) : 1 ≤ Rows.uptoBulk d := by
 cases d with
 | lit l => cases l <;> simp [Rows.uptoBulk]
 | _ => simp [Rows.uptoBulk]
theorem len_le {H : Type} : ∀ l : List (DataW H), l.length ≤ Rows.uptoBulkAll l
 | [] => Nat.zero_le _
 | d :: r => by
   have a := bulk_pos d
   have b := len_le r
   simp only [Rows.uptoBulkAll, List.length_cons]
   omega
theorem ent_pos {H : Type} (x : Lit × DataW H) : 1 ≤ Rows.uptoBulkEntry x := by
 obtain ⟨l, d⟩ := x
 cases l <;> simp [Rows.uptoBulkEntry]
theorem ents_le {H : Type} : ∀ l : List (Lit × DataW H), l.length ≤ Rows.uptoBulkEntries l
 | [] => Nat.zero_le _
 | x :: r => by
   have a := ent_pos x
   have b := ents_le r
   simp only [Rows.uptoBulkEntries, List.length_cons]
   omega
def kidsB (P : Program) (B : Nat) (t : TypeId) : Bool := match P.underlying t with
 | some (.pointer e) => decide (e < P.types.size)
 | some (.slice e) => decide (e < P.types.size) && decide (P.bytesOf e ≤ B)
 | some (.struct fs) => fs.toList.all fun f => decide (f.type < P.types.size)
 | some (.array _ e) => decide (e < P.types.size)
 | some (.map k e) => decide (e < P.types.size) && decide (P.bytesOf k ≤ B) && decide (P.bytesOf e ≤ B)
 | _ => true
mutual
theorem wt_le {H : Type} {P : Program} {B : Nat} (hB : ∀ t, t < P.types.size → kidsB P B t = true) (h1 : 1 ≤ B) : ∀ (d : DataW H) (t : TypeId) (y : Nat), t < P.types.size → y ∈ d.weights P t → y ≤ Rows.uptoBulk d * (2 * B)
 | .lit (.string bytes), t, y, ht, h => by
   simp only [DataW.weights, List.mem_singleton] at h
   subst h
   simp only [Rows.uptoBulk]
   exact Nat.le_trans (Nat.le_succ _) (Nat.le_mul_of_pos_right _ (by omega))
 | .lit (.bool b), t, y, ht, h => by simp [DataW.weights] at h
 | .lit (.int k n), t, y, ht, h => by simp [DataW.weights] at h
 | .lit (.float k n), t, y, ht, h => by simp [DataW.weights] at h
 | .lit .nil, t, y, ht, h => by simp [DataW.weights] at h
 | .nil, t, y, ht, h => by simp [DataW.weights] at h
 | .ptr d, t, y, ht, h => by
   simp only [DataW.weights] at h
   simp only [Rows.uptoBulk]
   split at h
   · rename_i e he
     have hk := hB t ht
     simp only [kidsB, he, decide_eq_true_eq] at hk
     exact Nat.le_trans (wt_le hB h1 d _ y hk h) (Nat.mul_le_mul_right _ (Nat.le_succ _))
   · simp at h
 | .slice elems spare, t, y, ht, h => by
   simp only [DataW.weights] at h
   simp only [Rows.uptoBulk]
   split at h
   · rename_i e he
     have hk := hB t ht
     simp only [kidsB, he, Bool.and_eq_true, decide_eq_true_eq] at hk
     simp only [List.mem_cons, List.mem_append] at h
     rcases h with rfl | h | h
     · have a := len_le elems
       have b := len_le spare
       exact Nat.le_trans (Nat.mul_le_mul (show elems.length + spare.length ≤ Rows.uptoBulkAll elems + Rows.uptoBulkAll spare + 1 by omega) hk.2) (Nat.mul_le_mul_left _ (by omega))
     · exact Nat.le_trans (wtAll_le hB h1 elems e y hk.1 h) (Nat.mul_le_mul_right _ (by omega))
     · exact Nat.le_trans (wtAll_le hB h1 spare e y hk.1 h) (Nat.mul_le_mul_right _ (by omega))
   · simp at h
 | .agg parts, t, y, ht, h => by
   simp only [DataW.weights] at h
   simp only [Rows.uptoBulk]
   split at h
   · rename_i fs he
     have hk := hB t ht
     simp only [kidsB, he, List.all_eq_true, decide_eq_true_eq] at hk
     exact Nat.le_trans (wtEach_le hB h1 parts _ y (fun t ht => by
       obtain ⟨f, hf, rfl⟩ := List.mem_map.1 ht
       exact hk f hf) h) (Nat.mul_le_mul_right _ (by omega))
   · rename_i n e he
     have hk := hB t ht
     simp only [kidsB, he, decide_eq_true_eq] at hk
     exact Nat.le_trans (wtAll_le hB h1 parts _ y hk h) (Nat.mul_le_mul_right _ (by omega))
   · simp at h
 | .iface _ _, t, y, ht, h => by simp [DataW.weights] at h
 | .map entries, t, y, ht, h => by
   simp only [DataW.weights] at h
   simp only [Rows.uptoBulk]
   split at h
   · rename_i k e he
     have hk := hB t ht
     simp only [kidsB, he, Bool.and_eq_true, decide_eq_true_eq] at hk
     simp only [List.mem_cons] at h
     rcases h with rfl | h
     · have a := ents_le entries
       exact Nat.mul_le_mul (by omega) (by omega)
     · exact Nat.le_trans (wtEnts_le hB h1 entries e y hk.1.1 h) (Nat.mul_le_mul_right _ (by omega))
   · simp at h
 | .held _, t, y, ht, h => by simp [DataW.weights] at h
theorem wtAll_le {H : Type} {P : Program} {B : Nat} (hB : ∀ t, t < P.types.size → kidsB P B t = true) (h1 : 1 ≤ B) : ∀ (l : List (DataW H)) (t : TypeId) (y : Nat), t < P.types.size → y ∈ DataW.weightsAll P t l → y ≤ Rows.uptoBulkAll l * (2 * B)
 | [], t, y, ht, h => by simp [DataW.weightsAll] at h
 | d :: r, t, y, ht, h => by
   simp only [DataW.weightsAll, List.mem_append] at h
   simp only [Rows.uptoBulkAll]
   rcases h with h | h
   · exact Nat.le_trans (wt_le hB h1 d t y ht h) (Nat.mul_le_mul_right _ (by omega))
   · exact Nat.le_trans (wtAll_le hB h1 r t y ht h) (Nat.mul_le_mul_right _ (by omega))
theorem wtEach_le {H : Type} {P : Program} {B : Nat} (hB : ∀ t, t < P.types.size → kidsB P B t = true) (h1 : 1 ≤ B) : ∀ (l : List (DataW H)) (ts : List TypeId) (y : Nat), (∀ t ∈ ts, t < P.types.size) → y ∈ DataW.weightsEach P ts l → y ≤ Rows.uptoBulkAll l * (2 * B)
 | [], ts, y, ht, h => by cases ts <;> simp [DataW.weightsEach] at h
 | d :: r, [], y, ht, h => by simp [DataW.weightsEach] at h
 | d :: r, t :: ts, y, ht, h => by
   simp only [DataW.weightsEach, List.mem_append] at h
   simp only [Rows.uptoBulkAll]
   rcases h with h | h
   · exact Nat.le_trans (wt_le hB h1 d t y (ht t (List.mem_cons_self ..)) h) (Nat.mul_le_mul_right _ (by omega))
   · exact Nat.le_trans (wtEach_le hB h1 r ts y (fun t h => ht t (List.mem_cons_of_mem _ h)) h) (Nat.mul_le_mul_right _ (by omega))
theorem wtEnts_le {H : Type} {P : Program} {B : Nat} (hB : ∀ t, t < P.types.size → kidsB P B t = true) (h1 : 1 ≤ B) : ∀ (l : List (Lit × DataW H)) (t : TypeId) (y : Nat), t < P.types.size → y ∈ DataW.weightsEntries P t l → y ≤ Rows.uptoBulkEntries l * (2 * B)
 | [], t, y, ht, h => by simp [DataW.weightsEntries] at h
 | x :: r, t, y, ht, h => by
   simp only [DataW.weightsEntries, List.mem_append] at h
   simp only [Rows.uptoBulkEntries]
   rcases h with h | h
   · exact Nat.le_trans (wtEnt_le hB h1 x t y ht h) (Nat.mul_le_mul_right _ (by omega))
   · exact Nat.le_trans (wtEnts_le hB h1 r t y ht h) (Nat.mul_le_mul_right _ (by omega))
theorem wtEnt_le {H : Type} {P : Program} {B : Nat} (hB : ∀ t, t < P.types.size → kidsB P B t = true) (h1 : 1 ≤ B) : ∀ (x : Lit × DataW H) (t : TypeId) (y : Nat), t < P.types.size → y ∈ DataW.weightsEntry P t x → y ≤ Rows.uptoBulkEntry x * (2 * B)
 | (.string bytes, d), t, y, ht, h => by
   simp only [DataW.weightsEntry, List.mem_cons] at h
   simp only [Rows.uptoBulkEntry]
   rcases h with rfl | h
   · exact Nat.le_trans (show bytes.length ≤ bytes.length + Rows.uptoBulk d + 1 by omega) (Nat.le_mul_of_pos_right _ (by omega))
   · exact Nat.le_trans (wt_le hB h1 d t y ht h) (Nat.mul_le_mul_right _ (by omega))
 | (.bool b, d), t, y, ht, h => by
   simp only [DataW.weightsEntry] at h; simp only [Rows.uptoBulkEntry]
   exact Nat.le_trans (wt_le hB h1 d t y ht h) (Nat.mul_le_mul_right _ (by omega))
 | (.int k n, d), t, y, ht, h => by
   simp only [DataW.weightsEntry] at h; simp only [Rows.uptoBulkEntry]
   exact Nat.le_trans (wt_le hB h1 d t y ht h) (Nat.mul_le_mul_right _ (by omega))
 | (.float k n, d), t, y, ht, h => by
   simp only [DataW.weightsEntry] at h; simp only [Rows.uptoBulkEntry]
   exact Nat.le_trans (wt_le hB h1 d t y ht h) (Nat.mul_le_mul_right _ (by omega))
 | (.nil, d), t, y, ht, h => by
   simp only [DataW.weightsEntry] at h; simp only [Rows.uptoBulkEntry]
   exact Nat.le_trans (wt_le hB h1 d t y ht h) (Nat.mul_le_mul_right _ (by omega))
end
theorem kids_all : ((List.range Tryd.prog.types.size).all (kidsB Tryd.prog 4096)) = true := by kernel_rfl
theorem kids_le (t : TypeId) (h : t < Tryd.prog.types.size) : kidsB Tryd.prog 4096 t = true := List.all_eq_true.1 kids_all t (List.mem_range.2 h)
theorem weigh {H : Type} {ts : List TypeId} (ht : ∀ t ∈ ts, t < Tryd.prog.types.size) {ds : List (DataW H)} (h : Rows.uptoSmall H ds = true) : (DataW.weightsEach Tryd.prog ts ds).all (· ≤ 8589934592) = true := by
 refine List.all_eq_true.2 fun y hy => decide_eq_true ?_
 have a := wtEach_le kids_le (by decide) ds ts y ht hy
 have b : Rows.uptoBulkAll ds ≤ 1048576 := of_decide_eq_true h
 omega
theorem ty55 : E0.ty 55 = some ⟨(.slice 26), 1, 24, [.nils]⟩ := rfl
theorem pcs_of {g : Nat → CV} (h : ShpK 8589934592 E0 6 55 g) : ∃ p : Pcs, p.wf ∧ fitTV (fun _ => .bad) (mkTV ⟨(.slice 26), 1, 24, [.nils]⟩ g) (pcsTV p) := by
 obtain ⟨n, c, e, hl, hc⟩ := h
 have hl : n * 24 ≤ 8589934592 := hl
 have hx : ∀ i, ∃ x : Nat × (Nat → Int), i < n → x.1 ≤ 1073741824 ∧ (∀ k, k < x.1 → iR (x.2 k)) ∧ ∃ d, c i 0 = .vs 1 x.1 d ∧ ∀ k, k < x.1 → d k 0 = .int .i64 (x.2 k) := fun i => by
   by_cases hi : i < n
   · obtain ⟨m, d, e2, hl2, hd⟩ := hc i hi
     have hl2 : m * 8 ≤ 8589934592 := hl2
     have hy : ∀ k, ∃ a : Int, k < m → d k 0 = .int .i64 a ∧ iR a := fun k => by
       by_cases hk : k < m
       · obtain ⟨a, h1, h2⟩ := hd k hk
         exact ⟨a, fun _ => ⟨h1, iR_of h2⟩⟩
       · exact ⟨0, fun h => absurd h hk⟩
     obtain ⟨f, hf⟩ := Classical.axiomOfChoice hy
     exact ⟨(m, f), fun _ => ⟨by show m ≤ 1073741824; omega, fun k hk => (hf k hk).2, d, e2, fun k hk => (hf k hk).1⟩⟩
   · exact ⟨(0, fun _ => 0), fun h => absurd h hi⟩
 obtain ⟨f, hf⟩ := Classical.axiomOfChoice hx
 refine ⟨⟨n, fun i => (f i).1, fun i => (f i).2⟩, ⟨by show n ≤ 1073741824; omega, fun i hi => ⟨(hf i hi).1, (hf i hi).2.1⟩⟩, ?_⟩
 show fitCV _ (g 0) _
 rw [e]
 refine ⟨trivial, trivial, rfl, fun i hi => ⟨trivial, ?_⟩⟩
 obtain ⟨_, _, d, e2, hd⟩ := hf i hi
 show fitP (c i 0) (.vs 1 (f i).1 _)
 rw [e2]
 refine ⟨trivial, rfl, fun k hk => ⟨trivial, ?_⟩⟩
 show fitP (d k 0) _
 rw [hd k hk]; rfl
theorem want55 : Tryd.prog.wantsStandIn 55 = false := by kernel_rfl
end Go.Proofs.YtcfmdhlohahhcaaDoor
