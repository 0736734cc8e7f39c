/- Texts for the law of the last part, part 15. -/
import Derived.Test.YtcfmdhlohahhcaaDoorMendsUptoP14
set_option linter.unusedSimpArgs false
set_option linter.unusedVariables false
namespace Go.Proofs.YtcfmdhlohahhcaaDoor
open Go Go.Sx Nm
set_option maxRecDepth 100000
set_option maxHeartbeats 1000000
structure RnAsk where
 t : Torn
 p : Pcs
def runR (t : Torn) (p : Pcs) (j : Nat) : Int := if okI t p p.np = true then (cntI t p j p.np : Int) else 0
def runN (t : Torn) (p : Pcs) : Nat := if okI t p p.np = true then t.n else 0
def sRun : Sig := ⟨RnAsk, fun a => [tornTV a.t, pcsTV a.p], fun a => a.t.n ≤ 72 ∧ a.p.wf, fun a => [.v (.c (intsCV (runN a.t a.p) (runR a.t a.p))), .v (.c (.bool (okI a.t a.p a.p.np)))]⟩
def aRn1 (t : Torn) (p : Pcs) : Ann := { G := Nat, ok := fun _ g => g ≤ p.np ∧ okI t p g = true, dom := fun st => [osN (st.tm 6)], tm := fun _ g => [(7, .t (intC g))], hp := fun st g => [(osN (st.tm 6), .self, some (.row 3 1 t.n (fun j _ => .int .i64 (cntI t p j g))))], mu := fun _ g => p.np - g }
def aRn2 (t : Torn) (p : Pcs) : Ann := { G := Nat × Nat, ok := fun st g => isI (st.tm 7) g.2 ∧ g.1 + 1 ≤ p.len g.2 ∧ fndK t p g.2 g.1 = true, dom := fun st => [osN (st.tm 6)], tm := fun _ g => [(8, .t (intC (g.1 + 1)))], hp := fun st g => [(osN (st.tm 6), .self, some (.row 3 1 t.n (fun j _ => .int .i64 ((cntI t p j g.2 + cntK t p g.2 j g.1 : Nat) : Int))))], mu := fun _ g => p.len g.2 - g.1 }
def aRn3 (t : Torn) (p : Pcs) : Ann := { G := Nat × Nat × Nat, ok := fun st g => isI (st.tm 7) g.2.2 ∧ isI (st.tm 8) (g.2.1 + 1) ∧ g.1 ≤ t.n, dom := fun st => [osN (st.tm 6)], tm := fun _ g => [(12, .t (intC g.1)), (11, .t (.c (.bool (!newB t.b (stL p g.2.2 g.2.1) (stH p g.2.2 g.2.1) g.1))))], hp := fun st g => [(osN (st.tm 6), .self, some (.row 3 1 t.n (fun j _ => .int .i64 ((cntI t p j g.2.2 + cntK t p g.2.2 j (if j < g.1 then g.2.1 + 1 else g.2.1) : Nat) : Int))))], mu := fun _ g => t.n - g.1 }
theorem q76 (a : sRun.α) (ha : sRun.pre a) : CallQ Tryd.prog E0 76 (sRun.arg a) (sRun.res a) := by
 obtain ⟨t, p⟩ := a
 refine bare_say E0_ok [] (show SigsOk Tryd.prog E0 [] from SigsOk.nil) [] EvensOk.nil runs { live := true, l := [(76, 3, aRn1 t p), (76, 8, aRn2 t p), (76, 13, aRn3 t p)] } (fuel := 8) ?_
 refine of_red (q := (0 : Int)≤(↑t.n : Int)∧(↑t.n : Int) = (↑t.n : Int)∧(↑(8 : Nat) : Int) * (↑t.n : Int)≤(140737488355328 : Int)∧(↑t.n : Int) < (4611686018427387904 : Int)∧(∃ (g : Nat), (g≤p.np∧okI t p g = true)∧True∧((True∧(0 : Int) = (↑g : Int))∧True)∧(True∧True∧t.n = t.n∧∀ (i : Nat), i < t.n→True∧(0 : Int) = (↑(cntI t p i g) : Int))∧True)∧∀ (g : Nat), g≤p.np∧okI t p g = true→(decide ((↑g : Int) < (↑p.np : Int)) = true→(0 : Int)≤(↑g : Int)∧(↑g : Int) < (↑p.np : Int)∧(decide ((↑(p.len g) : Int) < (2 : Int)) = true→(True∧runN t p = (0 : Nat))∧(True∧okI t p p.np = false)∧True)∧(decide ((↑(p.len g) : Int) < (2 : Int)) = false→(∃ (g_1 : Nat × Nat), ((↑g : Int) = (↑g_1.snd : Int)∧g_1.fst + (1 : Nat)≤p.len g_1.snd∧fndK t p g_1.snd g_1.fst = true)∧True∧((True∧(1 : Int) = (↑g_1.fst : Int) + (1 : Int))∧True)∧(True∧True∧t.n = t.n∧∀ (i : Nat), i < t.n→True∧(↑(cntI t p i g) : Int) = (↑(cntI t p i g_1.snd + cntK t p g_1.snd i g_1.fst) : Int))∧True)∧∀ (g_1 : Nat × Nat), (↑g : Int) = (↑g_1.snd : Int)∧g_1.fst + (1 : Nat)≤p.len g_1.snd∧fndK t p g_1.snd g_1.fst = true→(0 : Int)≤(↑g : Int)∧(↑g : Int) < (↑p.np : Int)∧(decide ((↑g_1.fst : Int) + (1 : Int) < (↑(p.len g) : Int)) = true→(0 : Int)≤(↑g : Int)∧(↑g : Int) < (↑p.np : Int)∧inRange IntKind.i64 ((↑g_1.fst : Int) + (1 : Int) - (1 : Int))∧(0 : Int)≤(↑g_1.fst : Int) + (1 : Int) - (1 : Int)∧(↑g_1.fst : Int) + (1 : Int) - (1 : Int) < (↑(p.len g) : Int)∧(0 : Int)≤(↑g : Int)∧(↑g : Int) < (↑p.np : Int)∧(0 : Int)≤(↑g_1.fst : Int) + (1 : Int)∧(↑g_1.fst : Int) + (1 : Int) < (↑(p.len g) : Int)∧(∃ (g_2 : Nat × Nat × Nat), ((↑g : Int) = (↑g_2.snd.snd : Int)∧(↑g_1.fst : Int) + (1 : Int) = (↑g_2.snd.fst : Int) + (1 : Int)∧g_2.fst≤t.n)∧True∧((True∧(0 : Int) = (↑g_2.fst : Int))∧(True∧(!newB t.b (stL p g_2.snd.snd g_2.snd.fst) (stH p g_2.snd.snd g_2.snd.fst) g_2.fst) = false)∧True)∧(True∧True∧t.n = t.n∧∀ (i : Nat), i < t.n→True∧(↑(cntI t p i g_1.snd + cntK t p g_1.snd i g_1.fst) : Int) = (↑(cntI t p i g_2.snd.snd + cntK t p g_2.snd.snd i (if i < g_2.fst then g_2.snd.fst + (1 : Nat) else g_2.snd.fst)) : Int))∧True)∧∀ (g_2 : Nat × Nat × Nat), (↑g : Int) = (↑g_2.snd.snd : Int)∧(↑g_1.fst : Int) + (1 : Int) = (↑g_2.snd.fst : Int) + (1 : Int)∧g_2.fst≤t.n→(decide ((↑g_2.fst : Int) < (↑t.n : Int)) = true→(0 : Int)≤(↑g_2.fst : Int)∧(↑g_2.fst : Int) < (↑t.n : Int)∧((t.b g_2.fst (0 : Nat) == imin (p.kn g ((↑g_1.fst : Int) + (1 : Int) - (1 : Int)).toNat) (p.kn g ((↑g_1.fst : Int) + (1 : Int)).toNat) && (t.b g_2.fst (1 : Nat) == imax (p.kn g ((↑g_1.fst : Int) + (1 : Int) - (1 : Int)).toNat) (p.kn g ((↑g_1.fst : Int) + (1 : Int)).toNat) && true)) = true→(0 : Int)≤(↑g_2.fst : Int)∧(↑g_2.fst : Int) < (↑t.n : Int)∧inRange IntKind.i64 ((↑(cntI t p g_2.fst g_2.snd.snd + cntK t p g_2.snd.snd g_2.fst (if g_2.fst < g_2.fst then g_2.snd.fst + (1 : Nat) else g_2.snd.fst)) : Int) + (1 : Int))∧(0 : Int)≤(↑g_2.fst : Int)∧(↑g_2.fst : Int) < (↑t.n : Int)∧inRange IntKind.i64 ((↑g_2.fst : Int) + (1 : Int))∧∃ (g' : Nat × Nat × Nat), ((↑g : Int) = (↑g'.snd.snd : Int)∧(↑g_1.fst : Int) + (1 : Int) = (↑g'.snd.fst : Int) + (1 : Int)∧g'.fst≤t.n)∧t.n - g'.fst < t.n - g_2.fst∧True∧((True∧(↑g_2.fst : Int) + (1 : Int) = (↑g'.fst : Int))∧(True∧(!newB t.b (stL p g'.snd.snd g'.snd.fst) (stH p g'.snd.snd g'.snd.fst) g'.fst) = true)∧True)∧(True∧True∧t.n = t.n∧∀ (i : Nat), i < t.n→True∧(if i = g_2.fst then (↑(cntI t p g_2.fst g_2.snd.snd + cntK t p g_2.snd.snd g_2.fst (if g_2.fst < g_2.fst then g_2.snd.fst + (1 : Nat) else g_2.snd.fst)) : Int) + (1 : Int) else (↑(cntI t p i g_2.snd.snd + cntK t p g_2.snd.snd i (if i < g_2.fst then g_2.snd.fst + (1 : Nat) else g_2.snd.fst)) : Int)) = (↑(cntI t p i g'.snd.snd + cntK t p g'.snd.snd i (if i < g'.fst then g'.snd.fst + (1 : Nat) else g'.snd.fst)) : Int))∧True)∧((t.b g_2.fst (0 : Nat) == imin (p.kn g ((↑g_1.fst : Int) + (1 : Int) - (1 : Int)).toNat) (p.kn g ((↑g_1.fst : Int) + (1 : Int)).toNat) && (t.b g_2.fst (1 : Nat) == imax (p.kn g ((↑g_1.fst : Int) + (1 : Int) - (1 : Int)).toNat) (p.kn g ((↑g_1.fst : Int) + (1 : Int)).toNat) && true)) = false→inRange IntKind.i64 ((↑g_2.fst : Int) + (1 : Int))∧∃ (g' : Nat × Nat × Nat), ((↑g : Int) = (↑g'.snd.snd : Int)∧(↑g_1.fst : Int) + (1 : Int) = (↑g'.snd.fst : Int) + (1 : Int)∧g'.fst≤t.n)∧t.n - g'.fst < t.n - g_2.fst∧True∧((True∧(↑g_2.fst : Int) + (1 : Int) = (↑g'.fst : Int))∧(True∧(!newB t.b (stL p g_2.snd.snd g_2.snd.fst) (stH p g_2.snd.snd g_2.snd.fst) g_2.fst) = !newB t.b (stL p g'.snd.snd g'.snd.fst) (stH p g'.snd.snd g'.snd.fst) g'.fst)∧True)∧(True∧True∧t.n = t.n∧∀ (i : Nat), i < t.n→True∧(↑(cntI t p i g_2.snd.snd + cntK t p g_2.snd.snd i (if i < g_2.fst then g_2.snd.fst + (1 : Nat) else g_2.snd.fst)) : Int) = (↑(cntI t p i g'.snd.snd + cntK t p g'.snd.snd i (if i < g'.fst then g'.snd.fst + (1 : Nat) else g'.snd.fst)) : Int))∧True))∧(decide ((↑g_2.fst : Int) < (↑t.n : Int)) = false→((!!newB t.b (stL p g_2.snd.snd g_2.snd.fst) (stH p g_2.snd.snd g_2.snd.fst) g_2.fst) = true→(True∧runN t p = (0 : Nat))∧(True∧okI t p p.np = false)∧True)∧((!!newB t.b (stL p g_2.snd.snd g_2.snd.fst) (stH p g_2.snd.snd g_2.snd.fst) g_2.fst) = false→inRange IntKind.i64 ((↑g_1.fst : Int) + (1 : Int) + (1 : Int))∧∃ (g' : Nat × Nat), ((↑g : Int) = (↑g'.snd : Int)∧g'.fst + (1 : Nat)≤p.len g'.snd∧fndK t p g'.snd g'.fst = true)∧p.len g'.snd - g'.fst < p.len g_1.snd - g_1.fst∧True∧((True∧(↑g_1.fst : Int) + (1 : Int) + (1 : Int) = (↑g'.fst : Int) + (1 : Int))∧True)∧(True∧True∧t.n = t.n∧∀ (i : Nat), i < t.n→True∧(↑(cntI t p i g_2.snd.snd + cntK t p g_2.snd.snd i (if i < g_2.fst then g_2.snd.fst + (1 : Nat) else g_2.snd.fst)) : Int) = (↑(cntI t p i g'.snd + cntK t p g'.snd i g'.fst) : Int))∧True)))∧(decide ((↑g_1.fst : Int) + (1 : Int) < (↑(p.len g) : Int)) = false→inRange IntKind.i64 ((↑g : Int) + (1 : Int))∧∃ (g' : Nat), (g'≤p.np∧okI t p g' = true)∧p.np - g' < p.np - g∧True∧((True∧(↑g : Int) + (1 : Int) = (↑g' : Int))∧True)∧(True∧True∧t.n = t.n∧∀ (i : Nat), i < t.n→True∧(↑(cntI t p i g_1.snd + cntK t p g_1.snd i g_1.fst) : Int) = (↑(cntI t p i g') : Int))∧True)))∧(decide ((↑g : Int) < (↑p.np : Int)) = false→(True∧True∧t.n = runN t p∧∀ (i : Nat), i < t.n→True∧(↑(cntI t p i g) : Int) = runR t p i)∧(True∧okI t p p.np = true)∧True)) (by kernel_rfl) ?_
 simp only [true_and, and_true, inR, Prod.exists, Prod.forall, and_assoc, exists_and_left, exists_eq_left', exists_eq_left, forall_eq, exists_const, forall_const, loopN, loopM, fa2, fas, fas2, dup1, dup2, dup3, dup4, ite_true, exhs, exhn, exhz, exho, exA, ex1, ex2, ex3, ex4, ex5, beqI, bneI, decide_true, Bool.true_and, decide_eq_true_eq, decide_eq_false_iff_not, ne_eq, Decidable.not_not]
 obtain ⟨hn, hp⟩ := (show t.n ≤ 72 ∧ p.wf from ha)
 have hnp := hp.1
 have up : ∀ (a : Nat), (↑a + 1 - 1 : Int).toNat = a ∧ ((a : Int) + 1).toNat = a + 1 := fun a => by omega
 refine ⟨by omega, by omega, by omega, ⟨0, by omega, rfl, rfl, fun _ _ => rfl⟩, fun g hg hok => ⟨by omega, by omega, fun hl => ?_, fun hl => ⟨⟨0, by omega, rfl, rfl, fun _ _ => rfl⟩, fun a b hab => ?_⟩⟩, fun hok => ?_⟩
 · have e : okI t p p.np = false := allB_false g hg (by rw [decide_eq_false (by omega)]; rfl)
   exact ⟨by unfold runN; rw [e]; rfl, e⟩
 · obtain ⟨eb, hal, hf⟩ := hab
   obtain rfl : b = g := by omega
   have hlen := (hp.2 b hg).1
   rw [(up a).1, (up a).2]
   refine ⟨by omega, by omega, fun hlt => ⟨by omega, by omega, by omega, by omega, by omega, by omega, by omega, by omega, by omega, by omega, ⟨0, a, rfl, by omega, rfl, rfl, fun j _ => by rw [if_neg (Nat.not_lt_zero j)]⟩, fun c a' b' hc => ?_⟩, fun hge => ?_⟩
   · obtain ⟨eb', ea', hcn⟩ := hc
     obtain rfl : b' = b := by omega
     obtain rfl : a' = a := by omega
     refine ⟨fun hlt2 => ⟨by omega, by omega, fun hE => ?_, fun hE => ?_⟩, fun hge2 => ⟨fun hN => ?_, fun hN => ?_⟩⟩
     · have q : barEq t.b (stL p b' a') (stH p b' a') c = true := by
         rw [Bool.and_true] at hE; exact hE
       have hcn : c < t.n := by omega
       have m1 := cntI_le (t := t) (j := c) hp (i := b') (by omega)
       have m2 := cntK_le (t := t) (p := p) (i := b') (j := c) (k := a')
       rw [if_neg (Nat.lt_irrefl c)]
       refine ⟨by omega, by omega, by omega, by omega, by omega, by omega, by omega, by omega, c + 1, a', rfl, by omega, by omega, rfl, ?_, fun j hj => ?_⟩
       · show (!(newB t.b (stL p b' a') (stH p b' a') c && !barEq t.b (stL p b' a') (stH p b' a') c)) = true
         rw [q]; simp
       · by_cases d : j = c
         · subst d
           rw [if_pos rfl, if_pos (Nat.lt_succ_self j), cntK, if_pos q]
           omega
         · rw [if_neg d]
           by_cases d2 : j < c
           · rw [if_pos d2, if_pos (by omega)]
           · rw [if_neg d2, if_neg (by omega)]
     · have q : barEq t.b (stL p b' a') (stH p b' a') c = false := by
         rw [Bool.and_true] at hE; exact hE
       refine ⟨by omega, by omega, c + 1, a', rfl, by omega, by omega, rfl, ?_, fun j hj => ?_⟩
       · show (!newB t.b (stL p b' a') (stH p b' a') c) = (!(newB t.b (stL p b' a') (stH p b' a') c && !barEq t.b (stL p b' a') (stH p b' a') c))
         rw [q]; simp
       · by_cases d : j = c
         · subst d
           rw [if_neg (Nat.lt_irrefl j), if_pos (Nat.lt_succ_self j), cntK, if_neg (by rw [q]; decide)]
           rfl
         · by_cases d2 : j < c
           · rw [if_pos d2, if_pos (by omega)]
           · rw [if_neg d2, if_neg (by omega)]
     · obtain rfl : c = t.n := by omega
       have e : okI t p p.np = false := allB_false b' hg (by
         unfold fndK
         rw [allB_false a' (by omega) (by rw [Bool.not_not] at hN; unfold hasB; rw [hN]; rfl), Bool.and_false])
       exact ⟨by unfold runN; rw [e]; rfl, e⟩
     · obtain rfl : c = t.n := by omega
       refine ⟨by omega, by omega, a' + 1, by omega, ?_, by omega, rfl, fun j hj => by rw [if_pos hj]⟩
       rw [fndK_succ, hf]
       rw [Bool.not_not] at hN
       unfold hasB
       rw [hN]; rfl
   · have ea : a = p.len b - 1 := by omega
     refine ⟨by omega, by omega, b + 1, by omega, ?_, by omega, rfl, fun j hj => by rw [ea]; rfl⟩
     rw [okI_succ, hok, ← ea, hf, decide_eq_true (by omega)]; rfl
 · refine ⟨by unfold runN; rw [if_pos hok], fun j _ => by unfold runR; rw [if_pos hok], hok⟩
structure MdAsk where
 t : Torn
 p : Pcs
def mdV (t : Torn) (p : Pcs) : Int := if tchk t = true then (if isM t p = true then twV t p.np else 0) else 0
def mdB (t : Torn) (p : Pcs) : Bool := tchk t && isM t p
def sMd : Sig := ⟨MdAsk, fun a => [tornTV a.t, pcsTV a.p], fun a => a.t.wf ∧ a.p.wf, fun a => [.v (intC (mdV a.t a.p)), .v (.c (.bool (mdB a.t a.p))), .v (intC (tchkE a.t))]⟩
def aMr (t : Torn) (p : Pcs) : Ann := { G := Nat, ok := fun _ g => g ≤ t.n, dom := fun _ => [], tm := fun _ g => [(9, .t (.c (.bool (okI t p p.np && allB g fun j => decide (cntI t p j p.np = 1))))), (10, .t (intC g))], hp := fun _ _ => [], mu := fun _ g => t.n - g }
theorem exTn {t : Torn} {R : Torn → Prop} (h : R t) : ∃ a : Torn, t.w = a.w ∧ t.h = a.h ∧ t.n = a.n ∧ (∀ i, i < t.n → t.b i 0 = a.b i 0 ∧ t.b i 1 = a.b i 1) ∧ t.m = a.m ∧ t.k = a.k ∧ R a :=
 ⟨t, rfl, rfl, rfl, fun _ _ => ⟨rfl, rfl⟩, rfl, rfl, h⟩
theorem exRn {t : Torn} {p : Pcs} {R : RnAsk → Prop} (h : R ⟨t, p⟩) : ∃ a : RnAsk, t.w = a.t.w ∧ t.h = a.t.h ∧ t.n = a.t.n ∧ (∀ i, i < t.n → t.b i 0 = a.t.b i 0 ∧ t.b i 1 = a.t.b i 1) ∧ t.m = a.t.m ∧ t.k = a.t.k ∧ p.np = a.p.np ∧ (∀ i, i < p.np → p.len i = a.p.len i ∧ ∀ j, j < p.len i → p.kn i j = a.p.kn i j) ∧ R a :=
 ⟨⟨t, p⟩, rfl, rfl, rfl, fun _ _ => ⟨rfl, rfl⟩, rfl, rfl, rfl, fun _ _ => ⟨rfl, fun _ _ => rfl⟩, h⟩
theorem exTw {t : Torn} {n : Nat} {R : TwAsk → Prop} (h : R ⟨t, n⟩) : ∃ a : TwAsk, t.w = a.t.w ∧ t.h = a.t.h ∧ t.n = a.t.n ∧ (∀ i, i < t.n → t.b i 0 = a.t.b i 0 ∧ t.b i 1 = a.t.b i 1) ∧ t.m = a.t.m ∧ t.k = a.t.k ∧ (n : Int) = a.p ∧ R a :=
 ⟨⟨t, n⟩, rfl, rfl, rfl, fun _ _ => ⟨rfl, rfl⟩, rfl, rfl, rfl, h⟩
theorem tk_of {t : Torn} (e : tchkE t = 0) : tchk t = true := by
 unfold tchkE at e
 split at e
 · assumption
 · cases e
theorem not_tk {t : Torn} (e : ¬ tchkE t = 0) : tchk t = false ∧ tchkE t = 23 := by
 unfold tchkE at e ⊢
 cases h : tchk t with
 | false => exact ⟨rfl, rfl⟩
 | true => rw [if_pos h] at e; exact absurd rfl e
theorem md_no {t : Torn} {p : Pcs} (e : ¬ tchkE t = 0) : 0 = mdV t p ∧ mdB t p = false := by
 unfold mdV mdB; rw [(not_tk e).1]; exact ⟨rfl, rfl⟩
theorem md_is {t : Torn} {p : Pcs} (hc : tchk t = true) (h : isM t p = true) : twV t p.np = mdV t p ∧ mdB t p = true ∧ 0 = tchkE t := by
 unfold mdV mdB tchkE; rw [hc, h]; exact ⟨rfl, rfl, rfl⟩
theorem md_isnt {t : Torn} {p : Pcs} (hc : tchk t = true) (h : isM t p = false) : 0 = mdV t p ∧ mdB t p = false ∧ 0 = tchkE t := by
 unfold mdV mdB tchkE; rw [hc, h]; exact ⟨rfl, rfl, rfl⟩
theorem q29 (a : sMd.α) (ha : sMd.pre a) : CallQ Tryd.prog E0 29 (sMd.arg a) (sMd.res a) := by
 obtain ⟨t, p⟩ := a
 refine bare_say E0_ok [(76, sRun), (77, sTwi), (31, sCkT)] (show SigsOk Tryd.prog E0 [(76, sRun), (77, sTwi), (31, sCkT)] from (((SigsOk.nil.cons u31 q31).cons u77 q77).cons u76 q76)) [] EvensOk.nil runs { live := true, l := [(29, 6, aMr t p)] } (fuel := 8) ?_
 refine of_red (q := ∃ (x : Torn), ((True∧((((True∧True∧t.w = x.w)∧True∧t.h = x.h)∧True∧True∧t.n = x.n∧∀ (i : Nat), i < t.n→(True∧t.b i 0 = x.b i 0)∧t.b i 1 = x.b i 1)∧True∧t.m = x.m)∧True∧t.k = x.k)∧True)∧(x.n < (4611686018427387904 : Nat)∧∀ (i : Nat), i < x.n→((-9223372036854775808 : Int)≤x.b i (0 : Nat)∧x.b i (0 : Nat)≤(9223372036854775807 : Int))∧(-9223372036854775808 : Int)≤x.b i (1 : Nat)∧x.b i (1 : Nat)≤(9223372036854775807 : Int))∧((tchkE x != (0 : Int)) = true→(True∧(0 : Int) = mdV t p)∧(True∧mdB t p = false)∧(True∧tchkE x = tchkE t)∧True)∧((tchkE x != (0 : Int)) = false→∃ (x : RnAsk), ((True∧((((True∧True∧t.w = x.t.w)∧True∧t.h = x.t.h)∧True∧True∧t.n = x.t.n∧∀ (i : Nat), i < t.n→(True∧t.b i 0 = x.t.b i 0)∧t.b i 1 = x.t.b i 1)∧True∧t.m = x.t.m)∧True∧t.k = x.t.k)∧(True∧True∧p.np = x.p.np∧∀ (i : Nat), i < p.np→True∧True∧p.len i = x.p.len i∧∀ (i_1 : Nat), i_1 < p.len i→True∧p.kn i i_1 = x.p.kn i i_1)∧True)∧(x.t.n≤(72 : Nat)∧x.p.np≤(1073741824 : Nat)∧∀ (i : Nat), i < x.p.np→x.p.len i≤(1073741824 : Nat)∧∀ (k : Nat), k < x.p.len i→(-9223372036854775808 : Int)≤x.p.kn i k∧x.p.kn i k≤(9223372036854775807 : Int))∧(∃ (g : Nat), g≤t.n∧True∧((True∧okI x.t x.p x.p.np = (okI t p p.np && allB g fun (j : Nat) => decide (cntI t p j p.np = (1 : Nat))))∧(True∧(0 : Int) = (↑g : Int))∧True)∧True)∧∀ (g : Nat), g≤t.n→((okI t p p.np && allB g fun (j : Nat) => decide (cntI t p j p.np = (1 : Nat))) = true→(decide ((↑g : Int) < (↑(runN x.t x.p) : Int)) = true→(0 : Int)≤(↑g : Int)∧(↑g : Int) < (↑(runN x.t x.p) : Int)∧inRange IntKind.i64 ((↑g : Int) + (1 : Int))∧∃ (g' : Nat), g'≤t.n∧t.n - g' < t.n - g∧True∧((True∧(runR x.t x.p g == (1 : Int)) = (okI t p p.np && allB g' fun (j : Nat) => decide (cntI t p j p.np = (1 : Nat))))∧(True∧(↑g : Int) + (1 : Int) = (↑g' : Int))∧True)∧True)∧(decide ((↑g : Int) < (↑(runN x.t x.p) : Int)) = false→((!(okI t p p.np && allB g fun (j : Nat) => decide (cntI t p j p.np = (1 : Nat)))) = true→(True∧(0 : Int) = mdV t p)∧(True∧mdB t p = false)∧(True∧(0 : Int) = tchkE t)∧True)∧((!(okI t p p.np && allB g fun (j : Nat) => decide (cntI t p j p.np = (1 : Nat)))) = false→∃ (x : TwAsk), ((True∧((((True∧True∧t.w = x.t.w)∧True∧t.h = x.t.h)∧True∧True∧t.n = x.t.n∧∀ (i : Nat), i < t.n→(True∧t.b i 0 = x.t.b i 0)∧t.b i 1 = x.t.b i 1)∧True∧t.m = x.t.m)∧True∧t.k = x.t.k)∧(True∧(↑p.np : Int) = (↑x.p : Int))∧True)∧(tk0 x.t = true∧x.t.n≤(72 : Nat)∧x.p≤(1000 : Nat))∧(True∧twV x.t (↑x.p : Int) = mdV t p)∧(True∧mdB t p = true)∧(True∧(0 : Int) = tchkE t)∧True)))∧((okI t p p.np && allB g fun (j : Nat) => decide (cntI t p j p.np = (1 : Nat))) = false→((!(okI t p p.np && allB g fun (j : Nat) => decide (cntI t p j p.np = (1 : Nat)))) = true→(True∧(0 : Int) = mdV t p)∧(True∧mdB t p = false)∧(True∧(0 : Int) = tchkE t)∧True)∧((!(okI t p p.np && allB g fun (j : Nat) => decide (cntI t p j p.np = (1 : Nat)))) = false→∃ (x : TwAsk), ((True∧((((True∧True∧t.w = x.t.w)∧True∧t.h = x.t.h)∧True∧True∧t.n = x.t.n∧∀ (i : Nat), i < t.n→(True∧t.b i 0 = x.t.b i 0)∧t.b i 1 = x.t.b i 1)∧True∧t.m = x.t.m)∧True∧t.k = x.t.k)∧(True∧(↑p.np : Int) = (↑x.p : Int))∧True)∧(tk0 x.t = true∧x.t.n≤(72 : Nat)∧x.p≤(1000 : Nat))∧(True∧twV x.t (↑x.p : Int) = mdV t p)∧(True∧mdB t p = true)∧(True∧(0 : Int) = tchkE t)∧True)))) (by kernel_rfl) ?_
 simp only [true_and, and_true, inR, Prod.exists, Prod.forall, and_assoc, exists_and_left, exists_eq_left', exists_eq_left, forall_eq, exists_const, forall_const, loopN, loopM, fa2, fas, fas2, dup1, dup2, dup3, dup4, ite_true, exhs, exhn, exhz, exho, exA, ex1, ex2, ex3, ex4, ex5, beqI, bneI, decide_true, Bool.true_and, decide_eq_true_eq, decide_eq_false_iff_not, ne_eq, Decidable.not_not]
 obtain ⟨⟨hn, hb⟩, hp⟩ := (show (t.n < 4611686018427387904 ∧ ∀ i, i < t.n → iR (t.b i 0) ∧ iR (t.b i 1)) ∧ p.wf from ha)
 refine exTn ⟨hn, fun i hi => ⟨(hb i hi).1.1, (hb i hi).1.2, (hb i hi).2.1, (hb i hi).2.2⟩, fun e => ⟨(md_no e).1, (md_no e).2, rfl⟩, fun e => ?_⟩
 have hc := tk_of e
 have T := tchk_ok hc
 have h72 := T.few
 have hle : runN t p ≤ t.n := by unfold runN; split <;> omega
 have fin : ∀ g, (okI t p p.np && allB g fun j => decide (cntI t p j p.np = 1)) = isM t p → ((!(okI t p p.np && allB g fun j => decide (cntI t p j p.np = 1))) = true → 0 = mdV t p ∧ mdB t p = false ∧ 0 = tchkE t) ∧ ((!(okI t p p.np && allB g fun j => decide (cntI t p j p.np = 1))) = false → ∃ a : TwAsk, t.w = a.t.w ∧ t.h = a.t.h ∧ t.n = a.t.n ∧ (∀ i, i < t.n → t.b i 0 = a.t.b i 0 ∧ t.b i 1 = a.t.b i 1) ∧ t.m = a.t.m ∧ t.k = a.t.k ∧ (p.np : Int) = a.p ∧ tk0 a.t = true ∧ a.t.n ≤ 72 ∧ a.p ≤ 1000 ∧ twV a.t a.p = mdV t p ∧ mdB t p = true ∧ 0 = tchkE t) := fun g e => by
   rw [e]
   refine ⟨fun h => md_isnt hc (by rw [Bool.not_eq_true'] at h; exact h), fun h => ?_⟩
   rw [Bool.not_eq_false'] at h
   exact exTw ⟨T.t0, h72, by have := np_few h; show p.np ≤ 1000; omega, md_is hc h⟩
 refine exRn ⟨h72, hp.1, fun i hi => ⟨(hp.2 i hi).1, fun k hk => ⟨((hp.2 i hi).2 k hk).1, ((hp.2 i hi).2 k hk).2⟩⟩, by omega, ?_, fun g hg => ⟨fun hT => ⟨fun hlt => ?_, fun hge => ?_⟩, fun hF => ?_⟩⟩
 · unfold allB; rw [Bool.and_true]
 · have ho : okI t p p.np = true := by rw [Bool.and_eq_true] at hT; exact hT.1
   have er : runN t p = t.n := if_pos ho
   have ec : runR t p g = cntI t p g p.np := if_pos ho
   have hlt : (g : Int) < runN t p := hlt
   refine ⟨by omega, hlt, by omega, by omega, by omega, by omega, ?_⟩
   rw [Bool.and_eq_true] at hT
   show decide (runR t p g = 1) = _
   rw [ec, allB, ho, hT.2, Bool.true_and, Bool.true_and]
   apply decide_eq_decide.2
   omega
 · refine fin g ?_
   have ho : okI t p p.np = true := by rw [Bool.and_eq_true] at hT; exact hT.1
   have er : runN t p = t.n := if_pos ho
   have hge : ¬ (g : Int) < runN t p := hge
   obtain rfl : g = t.n := by omega
   rfl
 · refine fin g ?_
   rw [hF]
   symm
   cases h : isM t p with
   | false => rfl
   | true =>
     unfold isM at h
     rw [Bool.and_eq_true] at h
     have : allB g (fun j => decide (cntI t p j p.np = 1)) = true := allB_iff.2 fun i hi => allB_iff.1 h.2 i (by omega)
     rw [h.1, this] at hF; cases hF
def aAl (t : Torn) : Ann := { G := Nat, ok := fun _ g => g ≤ t.n, dom := fun st => [osN (st.tm 4), osN (st.tm 5)], tm := fun _ g => [(13, .t (intC g))], hp := fun st g => [(osN (st.tm 4), .self, some (.box 72 (fun j => .bool (decide (j < g))))), (osN (st.tm 5), .self, some (.mp MI (numM t.b g)))], mu := fun _ g => t.n - g }
def lvB (t : Torn) (p : Pcs) (i k j : Nat) : Bool := decide (j < t.n) && decide (cntI t p j i + cntK t p i j k = 0)
structure LvOk (t : Torn) (p : Pcs) (i k : Nat) : Prop where
 fnd : fndK t p i k = true
 le : ∀ j, j < t.n → cntI t p j i + cntK t p i j k ≤ 1
def aM1 (t : Torn) (p : Pcs) : Ann := { G := Nat, ok := fun _ g => g ≤ p.np ∧ okI t p g = true ∧ LvOk t p g 0, dom := fun st => [osN (st.tm 9)], tm := fun _ g => [(32, .t (intC g))], hp := fun st g => [(osN (st.tm 9), .self, some (.box 72 (fun j => .bool (lvB t p g 0 j))))], mu := fun _ g => p.np - g }
def aM2 (t : Torn) (p : Pcs) : Ann := { G := Nat × Nat, ok := fun st g => isI (st.tm 32) g.2 ∧ g.1 ≤ p.len g.2 - 1 ∧ LvOk t p g.2 g.1, dom := fun st => [osN (st.tm 9)], tm := fun _ g => [(42, .t (intC g.1))], hp := fun st g => [(osN (st.tm 9), .self, some (.box 72 (fun j => .bool (lvB t p g.2 g.1 j))))], mu := fun _ g => p.len g.2 - g.1 }
theorem st_R {p : Pcs} {i k : Nat} (h1 : iR (p.kn i k)) (h2 : iR (p.kn i (k + 1))) : iR (stL p i k) ∧ iR (stH p i k) := by
 unfold stL stH imin imax
 constructor <;> split <;> assumption
def noneF (f : Nat → Bool) : Nat → Nat → Bool
 | 0, _ => true
 | n + 1, i => (f i == false) && noneF f n (i + 1)
theorem noneF_iff {f : Nat → Bool} : ∀ {n i : Nat}, noneF f n i = true ↔ ∀ j, i ≤ j → j < i + n → f j = false
 | 0, i => ⟨fun _ j h1 h2 => by omega, fun _ => rfl⟩
 | n + 1, i => by
   rw [noneF, Bool.and_eq_true, noneF_iff]
   constructor
   · intro ⟨h1, h2⟩ j h3 h4
     by_cases d : j = i
     · subst d; simpa using h1
     · exact h2 j (by omega) (by omega)
   · intro h
     exact ⟨by simpa using h i (by omega) (by omega), fun j h1 h2 => h j (by omega) (by omega)⟩
theorem q28 (a : sMd.α) (ha : sMd.pre a) : CallQ Tryd.prog E0 28 (sMd.arg a) (sMd.res a) := by
 obtain ⟨t, p⟩ := a
 refine bare_say E0_ok [(75, sTwi), (30, sCkT), (74, sEnds)] (show SigsOk Tryd.prog E0 [(75, sTwi), (30, sCkT), (74, sEnds)] from (((SigsOk.nil.cons u74 fun x _ => q74 x).cons u30 q30).cons u75 q75)) [] EvensOk.nil runs { live := true, l := [(73, 4, aAl t), (28, 7, aM1 t p), (28, 12, aM2 t p)] } (fuel := 8) ?_
 refine of_red (q := ∃ (x : Torn), ((True∧((((True∧True∧t.w = x.w)∧True∧t.h = x.h)∧True∧True∧t.n = x.n∧∀ (i : Nat), i < t.n→(True∧t.b i 0 = x.b i 0)∧t.b i 1 = x.b i 1)∧True∧t.m = x.m)∧True∧t.k = x.k)∧True)∧(x.n < (4611686018427387904 : Nat)∧∀ (i : Nat), i < x.n→((-9223372036854775808 : Int)≤x.b i (0 : Nat)∧x.b i (0 : Nat)≤(9223372036854775807 : Int))∧(-9223372036854775808 : Int)≤x.b i (1 : Nat)∧x.b i (1 : Nat)≤(9223372036854775807 : Int))∧((tchkE x != (0 : Int)) = true→(True∧(0 : Int) = mdV t p)∧(True∧mdB t p = false)∧(True∧tchkE x = tchkE t)∧True)∧((tchkE x != (0 : Int)) = false→(∃ (g : Nat), g≤t.n∧True∧((True∧(0 : Int) = (↑g : Int))∧True)∧(True∧∀ (j : Nat), j < (72 : Nat)→True∧decide (j < g) = false)∧(True∧∀ (ks : List Int), none = numM t.b g ks)∧True)∧∀ (g : Nat), g≤t.n→(decide ((↑g : Int) < (↑t.n : Int)) = true→(0 : Int)≤(↑g : Int)∧(↑g : Int) < (↑t.n : Int)∧(0 : Int)≤(↑g : Int)∧(↑g : Int) < (↑(72 : Nat) : Int)∧inRange IntKind.i64 (t.b g (0 : Nat))∧inRange IntKind.i64 (t.b g ((0 : Nat) + (1 : Nat)))∧inRange IntKind.i64 ((↑g : Int) + (1 : Int))∧∃ (g' : Nat), g'≤t.n∧t.n - g' < t.n - g∧True∧((True∧(↑g : Int) + (1 : Int) = (↑g' : Int))∧True)∧(True∧∀ (j : Nat), j < (72 : Nat)→True∧(if j = (0 : Nat) + g * (1 : Nat) + (0 : Nat) then true else decide (j < g)) = decide (j < g'))∧(True∧∀ (ks : List Int), (if ks = [t.b g (0 : Nat), t.b g ((0 : Nat) + (1 : Nat))] then some (↑g : Int) else numM t.b g ks) = numM t.b g' ks)∧True)∧(decide ((↑g : Int) < (↑t.n : Int)) = false→(∃ (g_1 : Nat), (g_1≤p.np∧okI t p g_1 = true∧LvOk t p g_1 (0 : Nat))∧True∧((True∧(0 : Int) = (↑g_1 : Int))∧True)∧(True∧∀ (j : Nat), j < (72 : Nat)→True∧decide (j < g) = lvB t p g_1 (0 : Nat) j)∧True)∧∀ (g_1 : Nat), g_1≤p.np∧okI t p g_1 = true∧LvOk t p g_1 (0 : Nat)→(decide ((↑g_1 : Int) < (↑p.np : Int)) = true→(0 : Int)≤(↑g_1 : Int)∧(↑g_1 : Int) < (↑p.np : Int)∧(decide ((↑(p.len g_1) : Int) < (2 : Int)) = true→(True∧(0 : Int) = mdV t p)∧(True∧mdB t p = false)∧(True∧(0 : Int) = tchkE t)∧True)∧(decide ((↑(p.len g_1) : Int) < (2 : Int)) = false→inRange IntKind.i64 ((↑(p.len g_1) : Int) - (1 : Int))∧(∃ (g : Nat × Nat), ((↑g_1 : Int) = (↑g.snd : Int)∧g.fst≤p.len g.snd - (1 : Nat)∧LvOk t p g.snd g.fst)∧True∧((True∧(0 : Int) = (↑g.fst : Int))∧True)∧(True∧∀ (j : Nat), j < (72 : Nat)→True∧lvB t p g_1 (0 : Nat) j = lvB t p g.snd g.fst j)∧True)∧∀ (g_2 : Nat × Nat), (↑g_1 : Int) = (↑g_2.snd : Int)∧g_2.fst≤p.len g_2.snd - (1 : Nat)∧LvOk t p g_2.snd g_2.fst→(decide ((↑g_2.fst : Int) < (↑(p.len g_1) : Int) - (1 : Int)) = true→(0 : Int)≤(↑g_2.fst : Int)∧(↑g_2.fst : Int) < (↑(p.len g_1) : Int)∧inRange IntKind.i64 ((↑g_2.fst : Int) + (1 : Int))∧(0 : Int)≤(↑g_2.fst : Int) + (1 : Int)∧(↑g_2.fst : Int) + (1 : Int) < (↑(p.len g_1) : Int)∧∃ (x : Int × Int), ((True∧p.kn g_1 g_2.fst = x.fst)∧(True∧True∧(1 : Nat) = (1 : Nat)∧∀ (i : Nat), i < (1 : Nat)→True∧(if i = (0 : Nat) then p.kn g_1 ((↑g_2.fst : Int) + (1 : Int)).toNat else (0 : Int)) = x.snd)∧True)∧True∧inRange IntKind.i64 (imin x.fst x.snd)∧inRange IntKind.i64 (imax x.fst x.snd)∧((!isSm (numM t.b g [imin x.fst x.snd, imax x.fst x.snd])) = true→(True∧(0 : Int) = mdV t p)∧(True∧mdB t p = false)∧(True∧(0 : Int) = tchkE t)∧True)∧((!isSm (numM t.b g [imin x.fst x.snd, imax x.fst x.snd])) = false→(0 : Int)≤valOf (numM t.b g [imin x.fst x.snd, imax x.fst x.snd])∧valOf (numM t.b g [imin x.fst x.snd, imax x.fst x.snd]) < (↑(72 : Nat) : Int)∧((!lvB t p g_2.snd g_2.fst ((0 : Nat) + (valOf (numM t.b g [imin x.fst x.snd, imax x.fst x.snd])).toNat * (1 : Nat) + (0 : Nat) + (0 : Nat))) = true→(True∧(0 : Int) = mdV t p)∧(True∧mdB t p = false)∧(True∧(0 : Int) = tchkE t)∧True)∧((!lvB t p g_2.snd g_2.fst ((0 : Nat) + (valOf (numM t.b g [imin x.fst x.snd, imax x.fst x.snd])).toNat * (1 : Nat) + (0 : Nat) + (0 : Nat))) = false→(0 : Int)≤valOf (numM t.b g [imin x.fst x.snd, imax x.fst x.snd])∧valOf (numM t.b g [imin x.fst x.snd, imax x.fst x.snd]) < (↑(72 : Nat) : Int)∧inRange IntKind.i64 ((↑g_2.fst : Int) + (1 : Int))∧∃ (g' : Nat × Nat), ((↑g_1 : Int) = (↑g'.snd : Int)∧g'.fst≤p.len g'.snd - (1 : Nat)∧LvOk t p g'.snd g'.fst)∧p.len g'.snd - g'.fst < p.len g_2.snd - g_2.fst∧True∧((True∧(↑g_2.fst : Int) + (1 : Int) = (↑g'.fst : Int))∧True)∧(True∧∀ (j : Nat), j < (72 : Nat)→True∧(if j = (0 : Nat) + (valOf (numM t.b g [imin x.fst x.snd, imax x.fst x.snd])).toNat * (1 : Nat) + (0 : Nat) then false else lvB t p g_2.snd g_2.fst j) = lvB t p g'.snd g'.fst j)∧True)))∧(decide ((↑g_2.fst : Int) < (↑(p.len g_1) : Int) - (1 : Int)) = false→inRange IntKind.i64 ((↑g_1 : Int) + (1 : Int))∧∃ (g' : Nat), (g'≤p.np∧okI t p g' = true∧LvOk t p g' (0 : Nat))∧p.np - g' < p.np - g_1∧True∧((True∧(↑g_1 : Int) + (1 : Int) = (↑g' : Int))∧True)∧(True∧∀ (j : Nat), j < (72 : Nat)→True∧lvB t p g_2.snd g_2.fst j = lvB t p g' (0 : Nat) j)∧True)))∧(decide ((↑g_1 : Int) < (↑p.np : Int)) = false→((!(lvB t p g_1 (0 : Nat) 0 == false && (lvB t p g_1 (0 : Nat) 1 == false && (lvB t p g_1 (0 : Nat) 2 == false && (lvB t p g_1 (0 : Nat) 3 == false && (lvB t p g_1 (0 : Nat) 4 == false && (lvB t p g_1 (0 : Nat) 5 == false && (lvB t p g_1 (0 : Nat) 6 == false && (lvB t p g_1 (0 : Nat) 7 == false && (lvB t p g_1 (0 : Nat) 8 == false && (lvB t p g_1 (0 : Nat) 9 == false && (lvB t p g_1 (0 : Nat) 10 == false && (lvB t p g_1 (0 : Nat) 11 == false && (lvB t p g_1 (0 : Nat) 12 == false && (lvB t p g_1 (0 : Nat) 13 == false && (lvB t p g_1 (0 : Nat) 14 == false && (lvB t p g_1 (0 : Nat) 15 == false && (lvB t p g_1 (0 : Nat) 16 == false && (lvB t p g_1 (0 : Nat) 17 == false && (lvB t p g_1 (0 : Nat) 18 == false && (lvB t p g_1 (0 : Nat) 19 == false && (lvB t p g_1 (0 : Nat) 20 == false && (lvB t p g_1 (0 : Nat) 21 == false && (lvB t p g_1 (0 : Nat) 22 == false && (lvB t p g_1 (0 : Nat) 23 == false && (lvB t p g_1 (0 : Nat) 24 == false && (lvB t p g_1 (0 : Nat) 25 == false && (lvB t p g_1 (0 : Nat) 26 == false && (lvB t p g_1 (0 : Nat) 27 == false && (lvB t p g_1 (0 : Nat) 28 == false && (lvB t p g_1 (0 : Nat) 29 == false && (lvB t p g_1 (0 : Nat) 30 == false && (lvB t p g_1 (0 : Nat) 31 == false && (lvB t p g_1 (0 : Nat) 32 == false && (lvB t p g_1 (0 : Nat) 33 == false && (lvB t p g_1 (0 : Nat) 34 == false && (lvB t p g_1 (0 : Nat) 35 == false && (lvB t p g_1 (0 : Nat) 36 == false && (lvB t p g_1 (0 : Nat) 37 == false && (lvB t p g_1 (0 : Nat) 38 == false && (lvB t p g_1 (0 : Nat) 39 == false && (lvB t p g_1 (0 : Nat) 40 == false && (lvB t p g_1 (0 : Nat) 41 == false && (lvB t p g_1 (0 : Nat) 42 == false && (lvB t p g_1 (0 : Nat) 43 == false && (lvB t p g_1 (0 : Nat) 44 == false && (lvB t p g_1 (0 : Nat) 45 == false && (lvB t p g_1 (0 : Nat) 46 == false && (lvB t p g_1 (0 : Nat) 47 == false && (lvB t p g_1 (0 : Nat) 48 == false && (lvB t p g_1 (0 : Nat) 49 == false && (lvB t p g_1 (0 : Nat) 50 == false && (lvB t p g_1 (0 : Nat) 51 == false && (lvB t p g_1 (0 : Nat) 52 == false && (lvB t p g_1 (0 : Nat) 53 == false && (lvB t p g_1 (0 : Nat) 54 == false && (lvB t p g_1 (0 : Nat) 55 == false && (lvB t p g_1 (0 : Nat) 56 == false && (lvB t p g_1 (0 : Nat) 57 == false && (lvB t p g_1 (0 : Nat) 58 == false && (lvB t p g_1 (0 : Nat) 59 == false && (lvB t p g_1 (0 : Nat) 60 == false && (lvB t p g_1 (0 : Nat) 61 == false && (lvB t p g_1 (0 : Nat) 62 == false && (lvB t p g_1 (0 : Nat) 63 == false && (lvB t p g_1 (0 : Nat) 64 == false && (lvB t p g_1 (0 : Nat) 65 == false && (lvB t p g_1 (0 : Nat) 66 == false && (lvB t p g_1 (0 : Nat) 67 == false && (lvB t p g_1 (0 : Nat) 68 == false && (lvB t p g_1 (0 : Nat) 69 == false && (lvB t p g_1 (0 : Nat) 70 == false && (lvB t p g_1 (0 : Nat) 71 == false && true))))))))))))))))))))))))))))))))))))))))))))))))))))))))))))))))))))))))) = true→(True∧(0 : Int) = mdV t p)∧(True∧mdB t p = false)∧(True∧(0 : Int) = tchkE t)∧True)∧((!(lvB t p g_1 (0 : Nat) 0 == false && (lvB t p g_1 (0 : Nat) 1 == false && (lvB t p g_1 (0 : Nat) 2 == false && (lvB t p g_1 (0 : Nat) 3 == false && (lvB t p g_1 (0 : Nat) 4 == false && (lvB t p g_1 (0 : Nat) 5 == false && (lvB t p g_1 (0 : Nat) 6 == false && (lvB t p g_1 (0 : Nat) 7 == false && (lvB t p g_1 (0 : Nat) 8 == false && (lvB t p g_1 (0 : Nat) 9 == false && (lvB t p g_1 (0 : Nat) 10 == false && (lvB t p g_1 (0 : Nat) 11 == false && (lvB t p g_1 (0 : Nat) 12 == false && (lvB t p g_1 (0 : Nat) 13 == false && (lvB t p g_1 (0 : Nat) 14 == false && (lvB t p g_1 (0 : Nat) 15 == false && (lvB t p g_1 (0 : Nat) 16 == false && (lvB t p g_1 (0 : Nat) 17 == false && (lvB t p g_1 (0 : Nat) 18 == false && (lvB t p g_1 (0 : Nat) 19 == false && (lvB t p g_1 (0 : Nat) 20 == false && (lvB t p g_1 (0 : Nat) 21 == false && (lvB t p g_1 (0 : Nat) 22 == false && (lvB t p g_1 (0 : Nat) 23 == false && (lvB t p g_1 (0 : Nat) 24 == false && (lvB t p g_1 (0 : Nat) 25 == false && (lvB t p g_1 (0 : Nat) 26 == false && (lvB t p g_1 (0 : Nat) 27 == false && (lvB t p g_1 (0 : Nat) 28 == false && (lvB t p g_1 (0 : Nat) 29 == false && (lvB t p g_1 (0 : Nat) 30 == false && (lvB t p g_1 (0 : Nat) 31 == false && (lvB t p g_1 (0 : Nat) 32 == false && (lvB t p g_1 (0 : Nat) 33 == false && (lvB t p g_1 (0 : Nat) 34 == false && (lvB t p g_1 (0 : Nat) 35 == false && (lvB t p g_1 (0 : Nat) 36 == false && (lvB t p g_1 (0 : Nat) 37 == false && (lvB t p g_1 (0 : Nat) 38 == false && (lvB t p g_1 (0 : Nat) 39 == false && (lvB t p g_1 (0 : Nat) 40 == false && (lvB t p g_1 (0 : Nat) 41 == false && (lvB t p g_1 (0 : Nat) 42 == false && (lvB t p g_1 (0 : Nat) 43 == false && (lvB t p g_1 (0 : Nat) 44 == false && (lvB t p g_1 (0 : Nat) 45 == false && (lvB t p g_1 (0 : Nat) 46 == false && (lvB t p g_1 (0 : Nat) 47 == false && (lvB t p g_1 (0 : Nat) 48 == false && (lvB t p g_1 (0 : Nat) 49 == false && (lvB t p g_1 (0 : Nat) 50 == false && (lvB t p g_1 (0 : Nat) 51 == false && (lvB t p g_1 (0 : Nat) 52 == false && (lvB t p g_1 (0 : Nat) 53 == false && (lvB t p g_1 (0 : Nat) 54 == false && (lvB t p g_1 (0 : Nat) 55 == false && (lvB t p g_1 (0 : Nat) 56 == false && (lvB t p g_1 (0 : Nat) 57 == false && (lvB t p g_1 (0 : Nat) 58 == false && (lvB t p g_1 (0 : Nat) 59 == false && (lvB t p g_1 (0 : Nat) 60 == false && (lvB t p g_1 (0 : Nat) 61 == false && (lvB t p g_1 (0 : Nat) 62 == false && (lvB t p g_1 (0 : Nat) 63 == false && (lvB t p g_1 (0 : Nat) 64 == false && (lvB t p g_1 (0 : Nat) 65 == false && (lvB t p g_1 (0 : Nat) 66 == false && (lvB t p g_1 (0 : Nat) 67 == false && (lvB t p g_1 (0 : Nat) 68 == false && (lvB t p g_1 (0 : Nat) 69 == false && (lvB t p g_1 (0 : Nat) 70 == false && (lvB t p g_1 (0 : Nat) 71 == false && true))))))))))))))))))))))))))))))))))))))))))))))))))))))))))))))))))))))))) = false→∃ (x : TwAsk), ((True∧((((True∧True∧t.w = x.t.w)∧True∧t.h = x.t.h)∧True∧True∧t.n = x.t.n∧∀ (i : Nat), i < t.n→(True∧t.b i 0 = x.t.b i 0)∧t.b i 1 = x.t.b i 1)∧True∧t.m = x.t.m)∧True∧t.k = x.t.k)∧(True∧(↑p.np : Int) = (↑x.p : Int))∧True)∧(tk0 x.t = true∧x.t.n≤(72 : Nat)∧x.p≤(1000 : Nat))∧(True∧twV x.t (↑x.p : Int) = mdV t p)∧(True∧mdB t p = true)∧(True∧(0 : Int) = tchkE t)∧True))))) (by kernel_rfl) ?_
 simp only [true_and, and_true, inR, Prod.exists, Prod.forall, and_assoc, exists_and_left, exists_eq_left', exists_eq_left, forall_eq, exists_const, forall_const, loopN, loopM, fa2, fas, fas2, dup1, dup2, dup3, dup4, ite_true, exhs, exhn, exhz, exho, exA, ex1, ex2, ex3, ex4, ex5, beqI, bneI, decide_true, Bool.true_and, decide_eq_true_eq, decide_eq_false_iff_not, ne_eq, Decidable.not_not]
 obtain ⟨⟨hn, hb⟩, hp⟩ := (show (t.n < 4611686018427387904 ∧ ∀ i, i < t.n → iR (t.b i 0) ∧ iR (t.b i 1)) ∧ p.wf from ha)
 have hnp := hp.1
 refine exTn ⟨hn, fun i hi => ⟨(hb i hi).1.1, (hb i hi).1.2, (hb i hi).2.1, (hb i hi).2.2⟩, fun e => ⟨(md_no e).1, (md_no e).2, rfl⟩, fun e => ?_⟩
 have hc := tk_of e
 have T := tchk_ok hc
 have h72 := T.few
 refine ⟨⟨0, by omega, rfl, fun j _ => by omega, fun _ => rfl⟩, fun g hg => ⟨by omega, by omega, by omega, by omega, (hb g hg).1.1, (hb g hg).1.2, (hb g hg).2.1, (hb g hg).2.2, by omega, by omega, g + 1, by omega, by omega, rfl, fun j hj => ?_, fun ks => rfl⟩, ⟨0, by omega, rfl, ⟨rfl, fun j hj => by simp [cntI, cntK]⟩, rfl, fun j hj => ?_⟩, fun g hg hh => ⟨by omega, by omega, fun hl => md_isnt hc (no_len hg (by omega)), fun hl => ⟨by omega, by have := (hp.2 g hg).1; omega, ⟨0, by omega, hh.2, rfl, fun _ _ => rfl⟩, fun a b hab => ⟨fun hlt => ?_, fun hge => ?_⟩⟩⟩, fun hh => ⟨fun h => ?_, fun h => ?_⟩⟩
 · by_cases d : j = g
   · rw [if_pos (by omega), decide_eq_true (show j < g + 1 by omega)]
   · rw [if_neg (by omega)]; apply decide_eq_decide.2; omega
 · unfold lvB cntI cntK; simp
 · obtain ⟨eb, hal, hL⟩ := hab
   obtain rfl : b = g := by omega
   have hlen := (hp.2 b hg).1
   have r1 := (hp.2 b hg).2 a (by omega)
   have r2 := (hp.2 b hg).2 (a + 1) (by omega)
   have up : ((a : Int) + 1).toNat = a + 1 := by omega
   rw [up]
   refine ⟨by omega, by omega, by omega, by omega, by omega, by omega, p.kn b (a + 1), fun i hi => if_pos (by omega), ?_⟩
   have eL : imin (p.kn b a) (p.kn b (a + 1)) = stL p b a := rfl
   have eH : imax (p.kn b a) (p.kn b (a + 1)) = stH p b a := rfl
   rw [eL, eH]
   obtain ⟨rl, rh⟩ := st_R r1 r2
   refine ⟨rl.1, rl.2, rh.1, rh.2, ?_⟩
   cases q : numM t.b t.n [stL p b a, stH p b a] with
   | none => exact ⟨fun _ => md_isnt hc (no_has (k := a) hg (by omega) (by unfold hasB; rw [numM_none q]; rfl)), fun h => by cases h⟩
   | some v =>
     obtain ⟨c, hcn, rfl, c0, c1⟩ := numM_some q
     have qe : barEq t.b (stL p b a) (stH p b a) c = true := barEq_iff.2 ⟨c0, c1⟩
     have ix : 0 + (valOf (some (c : Int))).toNat * 1 + 0 = c := by show 0 + (c : Int).toNat * 1 + 0 = c; omega
     have ix2 : 0 + (valOf (some (c : Int))).toNat * 1 + 0 + 0 = c := ix
     have other : ∀ j, j < t.n → j ≠ c → barEq t.b (stL p b a) (stH p b a) j = false := fun j hj ne => by
       cases e : barEq t.b (stL p b a) (stH p b a) j with
       | false => rfl
       | true =>
         obtain ⟨e0, e1⟩ := barEq_iff.1 e
         exact absurd (T.dif j hj c hcn (e0.trans c0.symm) (e1.trans c1.symm)) ne
     have sc : cntK t p b c (a + 1) = cntK t p b c a + 1 := by rw [cntK, if_pos qe]
     have so : ∀ j, j < t.n → j ≠ c → cntK t p b j (a + 1) = cntK t p b j a := fun j hj ne => by rw [cntK, if_neg (by rw [other j hj ne]; decide)]; rfl
     refine ⟨fun h => (by cases h), fun _ => ⟨by show 0 ≤ (c : Int); omega, by show (c : Int) < 72; omega, ?_⟩⟩
     rw [ix2]
     refine ⟨fun h => md_isnt hc (no_two hg (by omega) hcn qe ?_), fun h => ?_⟩
     · rw [Bool.not_eq_true'] at h
       unfold lvB at h
       rw [decide_eq_true hcn, Bool.true_and, decide_eq_false_iff_not] at h
       omega
     · rw [Bool.not_eq_false'] at h
       unfold lvB at h
       rw [decide_eq_true hcn, Bool.true_and, decide_eq_true_eq] at h
       refine ⟨by show 0 ≤ (c : Int); omega, by show (c : Int) < 72; omega, by omega, by omega, a + 1, by omega, ⟨?_, fun j hj => ?_⟩, by omega, rfl, fun j hj => ?_⟩
       · rw [fndK_succ, hL.fnd]; exact hasB_iff.2 ⟨c, hcn, c0, c1⟩
       · by_cases d : j = c
         · subst d; omega
         · rw [so j hj d]; exact hL.le j hj
       · by_cases d : j = c
         · subst d
           rw [if_pos rfl]; unfold lvB
           rw [decide_eq_false (show ¬ cntI t p j b + cntK t p b j (a + 1) = 0 by omega), Bool.and_false]
         · rw [if_neg d]
           unfold lvB
           by_cases hjn : j < t.n
           · rw [so j hjn d]
           · rw [decide_eq_false hjn]; rfl
 · obtain ⟨eb, hal, hL⟩ := hab
   obtain rfl : b = g := by omega
   have hlen := (hp.2 b hg).1
   obtain rfl : a = p.len b - 1 := by omega
   have e : ∀ j, cntI t p j (b + 1) + cntK t p (b + 1) j 0 = cntI t p j b + cntK t p b j (p.len b - 1) := fun j => rfl
   refine ⟨by omega, by omega, b + 1, by omega, ?_, ⟨rfl, fun j hj => by rw [e]; exact hL.le j hj⟩, by omega, rfl, fun j hj => ?_⟩
   · rw [okI_succ, hh.1, hL.fnd, decide_eq_true (by omega)]; rfl
   · unfold lvB; rw [e]
 · obtain ⟨ho, hL⟩ := hh
   have h : (!noneF (lvB t p p.np 0) 72 0) = true := h
   rw [Bool.not_eq_true'] at h
   refine md_isnt hc ?_
   cases q : isM t p with
   | false => rfl
   | true =>
     unfold isM at q
     rw [Bool.and_eq_true, allB_iff] at q
     have : noneF (lvB t p p.np 0) 72 0 = true := noneF_iff.2 fun j _ hj => by
       unfold lvB
       by_cases hjn : j < t.n
       · have := q.2 j hjn
         rw [decide_eq_true_eq] at this
         rw [decide_eq_false (show ¬ cntI t p j p.np + cntK t p p.np j 0 = 0 by omega), Bool.and_false]
       · rw [decide_eq_false hjn]; rfl
     rw [this] at h; cases h
 · obtain ⟨ho, hL⟩ := hh
   have h : (!noneF (lvB t p p.np 0) 72 0) = false := h
   rw [Bool.not_eq_false'] at h
   have hM : isM t p = true := by
     unfold isM
     rw [ho, Bool.true_and, allB_iff]
     intro j hj
     have a := noneF_iff.1 h j (by omega) (by omega)
     unfold lvB at a
     rw [decide_eq_true hj, Bool.true_and, decide_eq_false_iff_not] at a
     have b := hL.le j hj
     have c : cntK t p p.np j 0 = 0 := rfl
     rw [decide_eq_true_eq]; omega
   exact exTw ⟨T.t0, h72, by have := np_few hM; show p.np ≤ 1000; omega, md_is hc hM⟩
end Go.Proofs.YtcfmdhlohahhcaaDoor
namespace Go.Proofs.YtcfmdhlohahhcaaDoor
open Go Go.Sx Nm
set_option maxRecDepth 100000
set_option maxHeartbeats 8000000
def bars0 (i j : Nat) : Int := ([[0, 1], [1, 2], [1, 4]].getD i []).getD j 0
def toT (m : Nat) (f : Nat → Nat → Int) : Torn := ⟨3, 2, 3 + m, fun i j => if i < 3 then bars0 i j else f (i - 3) j, 10, 3⟩
structure ToAsk where
 m : Nat
 f : Nat → Nat → Int
def sTo : Sig := ⟨ToAsk, fun a => [.c (.vs 2 a.m fun i j => .int .i64 (a.f i j))], fun a => a.m < 100, fun a => [.v (tornTV (toT a.m a.f))]⟩
theorem q52 (a : sTo.α) (ha : sTo.pre a) : CallQ Tryd.prog E0 52 (sTo.arg a) (sTo.res a) := by
 obtain ⟨m, f⟩ := a
 refine bare_say E0_ok [] (show SigsOk Tryd.prog E0 [] from SigsOk.nil) [] EvensOk.nil runs { live := true } (fuel := 8) ?_
 refine of_red (q := ((3 : Nat) + m) * (16 : Nat)≤(140737488355328 : Nat)∧(3 : Nat) + m < (4611686018427387904 : Nat)∧True∧((((True∧True∧(3 : Int) = (toT m f).w)∧True∧(2 : Int) = (toT m f).h)∧True∧True∧(3 : Nat) + m = (toT m f).n∧∀ (i : Nat), i < (3 : Nat) + m→(True∧(if i < (3 : Nat) then if i = (2 : Nat) then (1 : Int) else if i = (1 : Nat) then (1 : Int) else if i = (0 : Nat) then (0 : Int) else (0 : Int) else f (i - (3 : Nat)) 0) = (toT m f).b i 0)∧(if i < (3 : Nat) then if i = (2 : Nat) then (4 : Int) else if i = (1 : Nat) then (2 : Int) else if i = (0 : Nat) then (1 : Int) else (0 : Int) else f (i - (3 : Nat)) 1) = (toT m f).b i 1)∧True∧(10 : Int) = (toT m f).m)∧True∧(3 : Int) = (toT m f).k) (by kernel_rfl) ?_
 simp only [true_and, and_true, inR, Prod.exists, Prod.forall, and_assoc, exists_and_left, exists_eq_left', exists_eq_left, forall_eq, exists_const, forall_const, loopN, loopM, fa2, fas, fas2, dup1, dup2, dup3, dup4, ite_true, exhs, exhn, exhz, exho, exA, ex1, ex2, ex3, ex4, ex5, beqI, bneI, decide_true, Bool.true_and, decide_eq_true_eq, decide_eq_false_iff_not, ne_eq, Decidable.not_not]
 have hm : m < 100 := ha
 refine ⟨by omega, by omega, rfl, rfl, rfl, fun i hi => ?_, rfl, rfl⟩
 by_cases c : i < 3
 · have e : ∀ j, (toT m f).b i j = bars0 i j := fun j => if_pos c
   rw [e, e, if_pos c, if_pos c]
   exact all3 (P := fun i => (if i = 2 then 1 else if i = 1 then 1 else if i = 0 then 0 else 0) = bars0 i 0 ∧ (if i = 2 then 4 else if i = 1 then 2 else if i = 0 then 1 else 0) = bars0 i 1) ⟨rfl, rfl⟩ ⟨rfl, rfl⟩ ⟨rfl, rfl⟩ i c
 · have e : ∀ j, (toT m f).b i j = f (i - 3) j := fun j => if_neg c
   rw [e, e, if_neg c, if_neg c]
   exact ⟨rfl, rfl⟩
end Go.Proofs.YtcfmdhlohahhcaaDoor
namespace Nm
open Go Go.Sx
def inK (K : List Int) : List Int → Option Int
 | [v] => if v ∈ K then some 1 else none
 | _ => none
theorem inK_nil {ks : List Int} : inK [] ks = none := by
 match ks with
 | [] => rfl
 | [v] => simp [inK]
 | v :: w :: l => rfl
theorem inK_put {K : List Int} {x : Int} {ks : List Int} : (if ks = [x] then some 1 else inK K ks) = inK (K ++ [x]) ks := by
 match ks with
 | [] => rfl
 | v :: w :: l => rw [if_neg (by simp)]; rfl
 | [v] =>
   show (if [v] = [x] then some 1 else if v ∈ K then some 1 else none) = if v ∈ K ++ [x] then some 1 else none
   by_cases c : v = x
   · rw [if_pos (by rw [c]), if_pos (by rw [c]; simp)]
   · rw [if_neg (by simpa using c)]
     by_cases d : v ∈ K
     · rw [if_pos d, if_pos (List.mem_append.2 (.inl d))]
     · rw [if_neg d, if_neg (by simp [c, d])]
def oddT (n : Nat) (b : Nat → Nat → Int) (s : Int) (i : Nat) : List Int := ((grpK n b s i).take i).filter (oddB n b)
def gI (l : List Int) (i : Nat) : Int := l.getD i 0
theorem gI_app {l m : List Int} {i : Nat} (h : i < l.length) : gI (l ++ m) i = gI l i := by
 unfold gI; rw [List.getD_eq_getElem?_getD, List.getD_eq_getElem?_getD, List.getElem?_append_left h]
theorem gI_end {l : List Int} {x : Int} : gI (l ++ [x]) l.length = x := by
 unfold gI; rw [List.getD_eq_getElem?_getD, List.getElem?_append_right (Nat.le_refl _)]; simp
theorem grpB_len {b : Nat → Nat → Int} {v : Int} {K : List Int} {j : Nat} : K.length ≤ (grpB b v j K).length := by
 obtain ⟨m, h⟩ := grpB_pre (b := b) (v := v) (K := K) (j := j)
 rw [h, List.length_append]; omega
theorem grpB_gI {b : Nat → Nat → Int} {v : Int} {K : List Int} {j i : Nat} (h : i < K.length) : gI (grpB b v j K) i = gI K i := by
 obtain ⟨m, e⟩ := grpB_pre (b := b) (v := v) (K := K) (j := j)
 rw [e, gI_app h]
theorem grpK_succ {n : Nat} {b : Nat → Nat → Int} {s : Int} {i : Nat} (h : i < (grpK n b s i).length) : grpK n b s (i + 1) = grpB b (gI (grpK n b s i) i) n (grpK n b s i) := by
 rw [grpK, if_pos h]; rfl
theorem oddT_succ {n : Nat} {b : Nat → Nat → Int} {s : Int} {i : Nat} (h : i < (grpK n b s i).length) : oddT n b s (i + 1) = if oddB n b (gI (grpK n b s i) i) = true then oddT n b s i ++ [gI (grpK n b s i) i] else oddT n b s i := by
 obtain ⟨m, e⟩ := grpK_pre (n := n) (b := b) (s := s) (i := i)
 unfold oddT
 have : (grpK n b s (i + 1)).take (i + 1) = (grpK n b s i).take i ++ [gI (grpK n b s i) i] := by
   rw [e, List.take_append_of_le_length (by omega), List.take_add_one, List.getElem?_eq_getElem h]
   unfold gI
   rw [List.getD_eq_getElem?_getD, List.getElem?_eq_getElem h]; rfl
 rw [this, List.filter_append, List.filter_cons, List.filter_nil]
 split <;> simp
theorem oddT_end {n : Nat} {b : Nat → Nat → Int} {s : Int} {i : Nat} (h : (grpK n b s i).length ≤ i) (e : grpK n b s i = grp n b s) : oddT n b s i = oddL n b s := by
 unfold oddT oddL; rw [List.take_of_length_le h, e]
theorem oddT_len {n : Nat} {b : Nat → Nat → Int} {s : Int} {i : Nat} : (oddT n b s i).length ≤ (grpK n b s i).length := by
 unfold oddT
 have h1 := List.length_filter_le (oddB n b) ((grpK n b s i).take i)
 rw [List.length_take] at h1
 omega
theorem inK_val {K : List Int} {x : Int} : (!decide (¬ valOf (inK K [x]) = 0)) = !decide (x ∈ K) := by
 have : valOf (inK K [x]) = if x ∈ K then 1 else 0 := by
   show valOf (if x ∈ K then some 1 else none) = _
   split <;> rfl
 rw [this]
 by_cases c : x ∈ K
 · rw [if_pos c, decide_eq_true c]; rfl
 · rw [if_neg c, decide_eq_false c]; rfl
theorem gI_put {l : List Int} {x d : Int} {i : Nat} (hi : i < l.length + 1) : (if i < l.length then gI l i else if i - l.length = 0 then x else d) = gI (l ++ [x]) i := by
 by_cases c : i < l.length
 · rw [if_pos c, gI_app c]
 · rw [if_neg c, if_pos (by omega), show i = l.length by omega, gI_end]
theorem len_put {l : List Int} {x : Int} : l.length + 1 = (l ++ [x]).length := by simp
theorem gI_mem {l : List Int} {i : Nat} (h : i < l.length) : gI l i ∈ l := by
 unfold gI; rw [List.getD_eq_getElem?_getD, List.getElem?_eq_getElem h]; exact List.getElem_mem h
end Nm
namespace Go.Proofs.YtcfmdhlohahhcaaDoor
open Go Go.Sx Nm
set_option maxRecDepth 100000
set_option maxHeartbeats 1000000
structure GpAsk where
 t : Torn
 s : Int
def sGrp : Sig := ⟨GpAsk, fun a => [tornTV a.t, intC a.s], fun a => TkOk a.t ∧ 0 ≤ a.s ∧ a.s < 36, fun a => [.v (.c (intsCV (grp a.t.n a.t.b a.s).length (gI (grp a.t.n a.t.b a.s)))), .v (.c (intsCV (oddL a.t.n a.t.b a.s).length (gI (oddL a.t.n a.t.b a.s))))]⟩
def aGp1 (t : Torn) (s : Int) : Ann := { G := Nat, ok := fun _ g => g ≤ 36 ∧ g ≤ (grpK t.n t.b s g).length, dom := fun st => [osN (st.tm 4), osN (st.tm 6), st.nx, st.nx + 1], tm := fun st g => [(4, .t (.c (.os st.nx 1 (grpK t.n t.b s g).length))), (5, .t (.c (.os (st.nx + 1) 1 (oddT t.n t.b s g).length))), (7, .t (intC g))], hp := fun st g => [(osN (st.tm 4), .self, none), (osN (st.tm 6), .self, some (.mp MK (inK (grpK t.n t.b s g)))), (st.nx, .slot 4, some (.row 3 1 (grpK t.n t.b s g).length (fun i _ => .int .i64 (gI (grpK t.n t.b s g) i)))), (st.nx + 1, .slot 5, some (.row 3 1 (oddT t.n t.b s g).length (fun i _ => .int .i64 (gI (oddT t.n t.b s g) i))))], mu := fun _ g => 36 - g }
def gB (t : Torn) (s : Int) (j i : Nat) : List Int := grpB t.b (gI (grpK t.n t.b s i) i) j (grpK t.n t.b s i)
def aGp2 (t : Torn) (s : Int) : Ann := { G := Nat × Nat, ok := fun st g => isI (st.tm 7) g.2 ∧ g.1 ≤ t.n ∧ g.2 < (grpK t.n t.b s g.2).length, dom := fun st => [osN (st.tm 4), osN (st.tm 6), st.nx], tm := fun st g => [(4, .t (.c (.os st.nx 1 (gB t s g.1 g.2).length))), (8, .t (intC (cntN g.1 fun j => inc t.b j (gI (grpK t.n t.b s g.2) g.2)))), (27, .t (intC g.1))], hp := fun st g => [(osN (st.tm 4), .self, none), (osN (st.tm 6), .self, some (.mp MK (inK (gB t s g.1 g.2)))), (st.nx, .slot 4, some (.row 3 1 (gB t s g.1 g.2).length (fun i _ => .int .i64 (gI (gB t s g.1 g.2) i))))], mu := fun _ g => t.n - g.1 }
theorem q80 (a : sGrp.α) (ha : sGrp.pre a) : CallQ Tryd.prog E0 80 (sGrp.arg a) (sGrp.res a) := by
 obtain ⟨t, s⟩ := a
 refine bare_say E0_ok [] (show SigsOk Tryd.prog E0 [] from SigsOk.nil) [] EvensOk.nil runs { live := true, l := [(80, 4, aGp1 t s), (80, 8, aGp2 t s)] } (fuel := 8) ?_
 refine of_red (q := inRange IntKind.i64 s∧(∃ (g : Nat), (g≤(36 : Nat)∧g≤(grpK t.n t.b s g).length)∧True∧((True∧True∧(1 : Nat) = (grpK t.n t.b s g).length)∧(True∧(oddT t.n t.b s g).length = (0 : Nat))∧(True∧(0 : Int) = (↑g : Int))∧True)∧(True∧∀ (ks : List Int), (if ks = [s] then some (bif true then (1 : Int) else (0 : Int)) else none) = inK (grpK t.n t.b s g) ks)∧(True∧True∧(1 : Nat) = (grpK t.n t.b s g).length∧∀ (i : Nat), i < (1 : Nat)→True∧(if i = (0 : Nat) then s else (0 : Int)) = gI (grpK t.n t.b s g) i)∧(oddT t.n t.b s g).length = (0 : Nat)∧True)∧∀ (g : Nat), g≤(36 : Nat)∧g≤(grpK t.n t.b s g).length→(decide ((↑g : Int) < (↑(grpK t.n t.b s g).length : Int)) = true→(∃ (g_1 : Nat × Nat), ((↑g : Int) = (↑g_1.snd : Int)∧g_1.fst≤t.n∧g_1.snd < (grpK t.n t.b s g_1.snd).length)∧True∧((True∧True∧(grpK t.n t.b s g).length = (gB t s g_1.fst g_1.snd).length)∧(True∧(0 : Int) = (↑(cntN g_1.fst fun (j : Nat) => inc t.b j (gI (grpK t.n t.b s g_1.snd) g_1.snd)) : Int))∧(True∧(0 : Int) = (↑g_1.fst : Int))∧True)∧(True∧∀ (ks : List Int), inK (grpK t.n t.b s g) ks = inK (gB t s g_1.fst g_1.snd) ks)∧(True∧True∧(grpK t.n t.b s g).length = (gB t s g_1.fst g_1.snd).length∧∀ (i : Nat), i < (grpK t.n t.b s g).length→True∧gI (grpK t.n t.b s g) i = gI (gB t s g_1.fst g_1.snd) i)∧True)∧∀ (g_1 : Nat × Nat), (↑g : Int) = (↑g_1.snd : Int)∧g_1.fst≤t.n∧g_1.snd < (grpK t.n t.b s g_1.snd).length→(decide ((↑g_1.fst : Int) < (↑t.n : Int)) = true→(0 : Int)≤(↑g_1.fst : Int)∧(↑g_1.fst : Int) < (↑t.n : Int)∧(0 : Int)≤(↑g : Int)∧(↑g : Int) < (↑(gB t s g_1.fst g_1.snd).length : Int)∧((t.b g_1.fst (0 : Nat) != gI (gB t s g_1.fst g_1.snd) g) = true→(0 : Int)≤(↑g : Int)∧(↑g : Int) < (↑(gB t s g_1.fst g_1.snd).length : Int)∧((t.b g_1.fst ((0 : Nat) + (nat_lit 0 + (1 : Nat))) != gI (gB t s g_1.fst g_1.snd) g) = true→inRange IntKind.i64 ((↑g_1.fst : Int) + (1 : Int))∧∃ (g' : Nat × Nat), ((↑g : Int) = (↑g'.snd : Int)∧g'.fst≤t.n∧g'.snd < (grpK t.n t.b s g'.snd).length)∧t.n - g'.fst < t.n - g_1.fst∧True∧((True∧True∧(gB t s g_1.fst g_1.snd).length = (gB t s g'.fst g'.snd).length)∧(True∧(↑(cntN g_1.fst fun (j : Nat) => inc t.b j (gI (grpK t.n t.b s g_1.snd) g_1.snd)) : Int) = (↑(cntN g'.fst fun (j : Nat) => inc t.b j (gI (grpK t.n t.b s g'.snd) g'.snd)) : Int))∧(True∧(↑g_1.fst : Int) + (1 : Int) = (↑g'.fst : Int))∧True)∧(True∧∀ (ks : List Int), inK (gB t s g_1.fst g_1.snd) ks = inK (gB t s g'.fst g'.snd) ks)∧(True∧True∧(gB t s g_1.fst g_1.snd).length = (gB t s g'.fst g'.snd).length∧∀ (i : Nat), i < (gB t s g_1.fst g_1.snd).length→True∧gI (gB t s g_1.fst g_1.snd) i = gI (gB t s g'.fst g'.snd) i)∧True)∧((t.b g_1.fst ((0 : Nat) + (nat_lit 0 + (1 : Nat))) != gI (gB t s g_1.fst g_1.snd) g) = false→inRange IntKind.i64 ((↑(cntN g_1.fst fun (j : Nat) => inc t.b j (gI (grpK t.n t.b s g_1.snd) g_1.snd)) : Int) + (1 : Int))∧inRange IntKind.i64 (t.b g_1.fst (0 : Nat) + t.b g_1.fst ((0 : Nat) + (nat_lit 0 + (1 : Nat))))∧(0 : Int)≤(↑g : Int)∧(↑g : Int) < (↑(gB t s g_1.fst g_1.snd).length : Int)∧inRange IntKind.i64 (t.b g_1.fst (0 : Nat) + t.b g_1.fst ((0 : Nat) + (nat_lit 0 + (1 : Nat))) - gI (gB t s g_1.fst g_1.snd) g)∧inRange IntKind.i64 (t.b g_1.fst (0 : Nat) + t.b g_1.fst ((0 : Nat) + (nat_lit 0 + (1 : Nat))) - gI (gB t s g_1.fst g_1.snd) g)∧((!decide (valOf (inK (gB t s g_1.fst g_1.snd) [t.b g_1.fst (0 : Nat) + t.b g_1.fst ((0 : Nat) + (nat_lit 0 + (1 : Nat))) - gI (gB t s g_1.fst g_1.snd) g]) ≠ (0 : Int))) = true→inRange IntKind.i64 (t.b g_1.fst (0 : Nat) + t.b g_1.fst ((0 : Nat) + (nat_lit 0 + (1 : Nat))) - gI (gB t s g_1.fst g_1.snd) g)∧((gB t s g_1.fst g_1.snd).length + (1 : Nat)) * (8 : Nat)≤(140737488355328 : Nat)∧(gB t s g_1.fst g_1.snd).length + (1 : Nat) < (4611686018427387904 : Nat)∧inRange IntKind.i64 ((↑g_1.fst : Int) + (1 : Int))∧∃ (g' : Nat × Nat), ((↑g : Int) = (↑g'.snd : Int)∧g'.fst≤t.n∧g'.snd < (grpK t.n t.b s g'.snd).length)∧t.n - g'.fst < t.n - g_1.fst∧True∧((True∧True∧(gB t s g_1.fst g_1.snd).length + (1 : Nat) = (gB t s g'.fst g'.snd).length)∧(True∧(↑(cntN g_1.fst fun (j : Nat) => inc t.b j (gI (grpK t.n t.b s g_1.snd) g_1.snd)) : Int) + (1 : Int) = (↑(cntN g'.fst fun (j : Nat) => inc t.b j (gI (grpK t.n t.b s g'.snd) g'.snd)) : Int))∧(True∧(↑g_1.fst : Int) + (1 : Int) = (↑g'.fst : Int))∧True)∧(True∧∀ (ks : List Int), (if ks = [t.b g_1.fst (0 : Nat) + t.b g_1.fst ((0 : Nat) + (nat_lit 0 + (1 : Nat))) - gI (gB t s g_1.fst g_1.snd) g] then some (bif true then (1 : Int) else (0 : Int)) else inK (gB t s g_1.fst g_1.snd) ks) = inK (gB t s g'.fst g'.snd) ks)∧(True∧True∧(gB t s g_1.fst g_1.snd).length + (1 : Nat) = (gB t s g'.fst g'.snd).length∧∀ (i : Nat), i < (gB t s g_1.fst g_1.snd).length + (1 : Nat)→True∧(if i < (gB t s g_1.fst g_1.snd).length then gI (gB t s g_1.fst g_1.snd) i else if i - (gB t s g_1.fst g_1.snd).length = (0 : Nat) then t.b g_1.fst (0 : Nat) + t.b g_1.fst ((0 : Nat) + (nat_lit 0 + (1 : Nat))) - gI (gB t s g_1.fst g_1.snd) g else (0 : Int)) = gI (gB t s g'.fst g'.snd) i)∧True)∧((!decide (valOf (inK (gB t s g_1.fst g_1.snd) [t.b g_1.fst (0 : Nat) + t.b g_1.fst ((0 : Nat) + (nat_lit 0 + (1 : Nat))) - gI (gB t s g_1.fst g_1.snd) g]) ≠ (0 : Int))) = false→inRange IntKind.i64 ((↑g_1.fst : Int) + (1 : Int))∧∃ (g' : Nat × Nat), ((↑g : Int) = (↑g'.snd : Int)∧g'.fst≤t.n∧g'.snd < (grpK t.n t.b s g'.snd).length)∧t.n - g'.fst < t.n - g_1.fst∧True∧((True∧True∧(gB t s g_1.fst g_1.snd).length = (gB t s g'.fst g'.snd).length)∧(True∧(↑(cntN g_1.fst fun (j : Nat) => inc t.b j (gI (grpK t.n t.b s g_1.snd) g_1.snd)) : Int) + (1 : Int) = (↑(cntN g'.fst fun (j : Nat) => inc t.b j (gI (grpK t.n t.b s g'.snd) g'.snd)) : Int))∧(True∧(↑g_1.fst : Int) + (1 : Int) = (↑g'.fst : Int))∧True)∧(True∧∀ (ks : List Int), inK (gB t s g_1.fst g_1.snd) ks = inK (gB t s g'.fst g'.snd) ks)∧(True∧True∧(gB t s g_1.fst g_1.snd).length = (gB t s g'.fst g'.snd).length∧∀ (i : Nat), i < (gB t s g_1.fst g_1.snd).length→True∧gI (gB t s g_1.fst g_1.snd) i = gI (gB t s g'.fst g'.snd) i)∧True)))∧((t.b g_1.fst (0 : Nat) != gI (gB t s g_1.fst g_1.snd) g) = false→inRange IntKind.i64 ((↑(cntN g_1.fst fun (j : Nat) => inc t.b j (gI (grpK t.n t.b s g_1.snd) g_1.snd)) : Int) + (1 : Int))∧inRange IntKind.i64 (t.b g_1.fst (0 : Nat) + t.b g_1.fst ((0 : Nat) + (nat_lit 0 + (1 : Nat))))∧(0 : Int)≤(↑g : Int)∧(↑g : Int) < (↑(gB t s g_1.fst g_1.snd).length : Int)∧inRange IntKind.i64 (t.b g_1.fst (0 : Nat) + t.b g_1.fst ((0 : Nat) + (nat_lit 0 + (1 : Nat))) - gI (gB t s g_1.fst g_1.snd) g)∧inRange IntKind.i64 (t.b g_1.fst (0 : Nat) + t.b g_1.fst ((0 : Nat) + (nat_lit 0 + (1 : Nat))) - gI (gB t s g_1.fst g_1.snd) g)∧((!decide (valOf (inK (gB t s g_1.fst g_1.snd) [t.b g_1.fst (0 : Nat) + t.b g_1.fst ((0 : Nat) + (nat_lit 0 + (1 : Nat))) - gI (gB t s g_1.fst g_1.snd) g]) ≠ (0 : Int))) = true→inRange IntKind.i64 (t.b g_1.fst (0 : Nat) + t.b g_1.fst ((0 : Nat) + (nat_lit 0 + (1 : Nat))) - gI (gB t s g_1.fst g_1.snd) g)∧((gB t s g_1.fst g_1.snd).length + (1 : Nat)) * (8 : Nat)≤(140737488355328 : Nat)∧(gB t s g_1.fst g_1.snd).length + (1 : Nat) < (4611686018427387904 : Nat)∧inRange IntKind.i64 ((↑g_1.fst : Int) + (1 : Int))∧∃ (g' : Nat × Nat), ((↑g : Int) = (↑g'.snd : Int)∧g'.fst≤t.n∧g'.snd < (grpK t.n t.b s g'.snd).length)∧t.n - g'.fst < t.n - g_1.fst∧True∧((True∧True∧(gB t s g_1.fst g_1.snd).length + (1 : Nat) = (gB t s g'.fst g'.snd).length)∧(True∧(↑(cntN g_1.fst fun (j : Nat) => inc t.b j (gI (grpK t.n t.b s g_1.snd) g_1.snd)) : Int) + (1 : Int) = (↑(cntN g'.fst fun (j : Nat) => inc t.b j (gI (grpK t.n t.b s g'.snd) g'.snd)) : Int))∧(True∧(↑g_1.fst : Int) + (1 : Int) = (↑g'.fst : Int))∧True)∧(True∧∀ (ks : List Int), (if ks = [t.b g_1.fst (0 : Nat) + t.b g_1.fst ((0 : Nat) + (nat_lit 0 + (1 : Nat))) - gI (gB t s g_1.fst g_1.snd) g] then some (bif true then (1 : Int) else (0 : Int)) else inK (gB t s g_1.fst g_1.snd) ks) = inK (gB t s g'.fst g'.snd) ks)∧(True∧True∧(gB t s g_1.fst g_1.snd).length + (1 : Nat) = (gB t s g'.fst g'.snd).length∧∀ (i : Nat), i < (gB t s g_1.fst g_1.snd).length + (1 : Nat)→True∧(if i < (gB t s g_1.fst g_1.snd).length then gI (gB t s g_1.fst g_1.snd) i else if i - (gB t s g_1.fst g_1.snd).length = (0 : Nat) then t.b g_1.fst (0 : Nat) + t.b g_1.fst ((0 : Nat) + (nat_lit 0 + (1 : Nat))) - gI (gB t s g_1.fst g_1.snd) g else (0 : Int)) = gI (gB t s g'.fst g'.snd) i)∧True)∧((!decide (valOf (inK (gB t s g_1.fst g_1.snd) [t.b g_1.fst (0 : Nat) + t.b g_1.fst ((0 : Nat) + (nat_lit 0 + (1 : Nat))) - gI (gB t s g_1.fst g_1.snd) g]) ≠ (0 : Int))) = false→inRange IntKind.i64 ((↑g_1.fst : Int) + (1 : Int))∧∃ (g' : Nat × Nat), ((↑g : Int) = (↑g'.snd : Int)∧g'.fst≤t.n∧g'.snd < (grpK t.n t.b s g'.snd).length)∧t.n - g'.fst < t.n - g_1.fst∧True∧((True∧True∧(gB t s g_1.fst g_1.snd).length = (gB t s g'.fst g'.snd).length)∧(True∧(↑(cntN g_1.fst fun (j : Nat) => inc t.b j (gI (grpK t.n t.b s g_1.snd) g_1.snd)) : Int) + (1 : Int) = (↑(cntN g'.fst fun (j : Nat) => inc t.b j (gI (grpK t.n t.b s g'.snd) g'.snd)) : Int))∧(True∧(↑g_1.fst : Int) + (1 : Int) = (↑g'.fst : Int))∧True)∧(True∧∀ (ks : List Int), inK (gB t s g_1.fst g_1.snd) ks = inK (gB t s g'.fst g'.snd) ks)∧(True∧True∧(gB t s g_1.fst g_1.snd).length = (gB t s g'.fst g'.snd).length∧∀ (i : Nat), i < (gB t s g_1.fst g_1.snd).length→True∧gI (gB t s g_1.fst g_1.snd) i = gI (gB t s g'.fst g'.snd) i)∧True)))∧(decide ((↑g_1.fst : Int) < (↑t.n : Int)) = false→(2 : Int) ≠ (0 : Int)∧(((↑(cntN g_1.fst fun (j : Nat) => inc t.b j (gI (grpK t.n t.b s g_1.snd) g_1.snd)) : Int).tmod (2 : Int) == (1 : Int)) = true→(0 : Int)≤(↑g : Int)∧(↑g : Int) < (↑(gB t s g_1.fst g_1.snd).length : Int)∧((oddT t.n t.b s g).length + (1 : Nat)) * (8 : Nat)≤(140737488355328 : Nat)∧(oddT t.n t.b s g).length + (1 : Nat) < (4611686018427387904 : Nat)∧inRange IntKind.i64 ((↑g : Int) + (1 : Int))∧∃ (g' : Nat), (g'≤(36 : Nat)∧g'≤(grpK t.n t.b s g').length)∧(36 : Nat) - g' < (36 : Nat) - g∧True∧((True∧True∧(gB t s g_1.fst g_1.snd).length = (grpK t.n t.b s g').length)∧(True∧True∧(oddT t.n t.b s g).length + (1 : Nat) = (oddT t.n t.b s g').length)∧(True∧(↑g : Int) + (1 : Int) = (↑g' : Int))∧True)∧(True∧∀ (ks : List Int), inK (gB t s g_1.fst g_1.snd) ks = inK (grpK t.n t.b s g') ks)∧(True∧True∧(gB t s g_1.fst g_1.snd).length = (grpK t.n t.b s g').length∧∀ (i : Nat), i < (gB t s g_1.fst g_1.snd).length→True∧gI (gB t s g_1.fst g_1.snd) i = gI (grpK t.n t.b s g') i)∧(True∧True∧(oddT t.n t.b s g).length + (1 : Nat) = (oddT t.n t.b s g').length∧∀ (i : Nat), i < (oddT t.n t.b s g).length + (1 : Nat)→True∧(if i < (oddT t.n t.b s g).length then gI (oddT t.n t.b s g) i else if i - (oddT t.n t.b s g).length = (0 : Nat) then gI (gB t s g_1.fst g_1.snd) g else (0 : Int)) = gI (oddT t.n t.b s g') i)∧True)∧(((↑(cntN g_1.fst fun (j : Nat) => inc t.b j (gI (grpK t.n t.b s g_1.snd) g_1.snd)) : Int).tmod (2 : Int) == (1 : Int)) = false→inRange IntKind.i64 ((↑g : Int) + (1 : Int))∧∃ (g' : Nat), (g'≤(36 : Nat)∧g'≤(grpK t.n t.b s g').length)∧(36 : Nat) - g' < (36 : Nat) - g∧True∧((True∧True∧(gB t s g_1.fst g_1.snd).length = (grpK t.n t.b s g').length)∧(True∧True∧(oddT t.n t.b s g).length = (oddT t.n t.b s g').length)∧(True∧(↑g : Int) + (1 : Int) = (↑g' : Int))∧True)∧(True∧∀ (ks : List Int), inK (gB t s g_1.fst g_1.snd) ks = inK (grpK t.n t.b s g') ks)∧(True∧True∧(gB t s g_1.fst g_1.snd).length = (grpK t.n t.b s g').length∧∀ (i : Nat), i < (gB t s g_1.fst g_1.snd).length→True∧gI (gB t s g_1.fst g_1.snd) i = gI (grpK t.n t.b s g') i)∧(True∧True∧(oddT t.n t.b s g).length = (oddT t.n t.b s g').length∧∀ (i : Nat), i < (oddT t.n t.b s g).length→True∧gI (oddT t.n t.b s g) i = gI (oddT t.n t.b s g') i)∧True)))∧(decide ((↑g : Int) < (↑(grpK t.n t.b s g).length : Int)) = false→(True∧True∧(grpK t.n t.b s g).length = (grp t.n t.b s).length∧∀ (i : Nat), i < (grpK t.n t.b s g).length→True∧gI (grpK t.n t.b s g) i = gI (grp t.n t.b s) i)∧(True∧True∧(oddT t.n t.b s g).length = (oddL t.n t.b s).length∧∀ (i : Nat), i < (oddT t.n t.b s g).length→True∧gI (oddT t.n t.b s g) i = gI (oddL t.n t.b s) i)∧True)) (by kernel_rfl) ?_
 simp only [true_and, and_true, inR, Prod.exists, Prod.forall, and_assoc, exists_and_left, exists_eq_left', exists_eq_left, forall_eq, exists_const, forall_const, loopN, loopM, fa2, fas, fas2, dup1, dup2, dup3, dup4, ite_true, exhs, exhn, exhz, exho, exA, ex1, ex2, ex3, ex4, ex5, beqI, bneI, decide_true, Bool.true_and, decide_eq_true_eq, decide_eq_false_iff_not, ne_eq, Decidable.not_not]
 obtain ⟨T, hs0, hs1⟩ := (show TkOk t ∧ 0 ≤ s ∧ s < 36 from ha)
 have B := BrOk.of T
 have few := T.few
 have hk := B.k36
 have K36 : ∀ g, (grpK t.n t.b s g).length ≤ 36 := fun g => grpK_few hk ⟨hs0, hs1⟩
 have rng : ∀ g i, i < (grpK t.n t.b s g).length → 0 ≤ gI (grpK t.n t.b s g) i ∧ gI (grpK t.n t.b s g) i < 36 := fun g i hi => grpK_kn hk ⟨hs0, hs1⟩ _ (gI_mem hi)
 have B36 : ∀ a g, a ≤ t.n → g < (grpK t.n t.b s g).length → (gB t s a g).length ≤ 36 := fun a g ha hg => by
   refine nod_few (grpB_nod grpK_nod) fun v hv => ?_
   rcases grpB_mem hv with h | ⟨i, h1, h2, rfl⟩
   · exact grpK_kn hk ⟨hs0, hs1⟩ _ h
   · have := hk i (by omega)
     rcases othr_of h2 with ⟨_, e⟩ | ⟨_, e⟩ <;> rw [e] <;> omega
 have odL : ∀ g, (oddT t.n t.b s g).length ≤ 36 := fun g => Nat.le_trans oddT_len (K36 g)
 refine ⟨by omega, by omega, ⟨0, by omega, Nat.zero_le _, rfl, rfl, rfl, fun ks => ?_, rfl, fun i hi => ?_, rfl⟩, fun g hg => ⟨fun hlt => ⟨⟨0, Nat.zero_le _, by omega, rfl, rfl, rfl, fun _ => rfl, rfl, fun _ _ => rfl⟩, fun a b hab => ?_⟩, fun hge => ?_⟩⟩
 · have h := inK_put (K := []) (x := s) (ks := ks)
   rw [inK_nil] at h
   exact h
 · rw [if_pos (by omega), show i = 0 by omega]; rfl
 · obtain ⟨eb, han, hb⟩ := hab
   obtain rfl : b = g := by omega
   have hl := B36 a b han hb
   have hv := rng b b hb
   have ev : gI (gB t s a b) b = gI (grpK t.n t.b s b) b := grpB_gI hb
   have hlB : b < (gB t s a b).length := Nat.lt_of_lt_of_le hb grpB_len
   have hc : cntN a (fun j => inc t.b j (gI (grpK t.n t.b s b) b)) ≤ a := cntN_max
   rw [ev]
   refine ⟨fun hlt2 => ?_, fun hge => ?_⟩
   · have hkn := hk a (by omega)
     have K1 : inc t.b a (gI (grpK t.n t.b s b) b) = true → othr t.b a (gI (grpK t.n t.b s b) b) ∉ gB t s a b → gB t s (a + 1) b = gB t s a b ++ [othr t.b a (gI (grpK t.n t.b s b) b)] := fun h1 h2 => if_pos ⟨h1, h2⟩
     have K0 : inc t.b a (gI (grpK t.n t.b s b) b) = true → othr t.b a (gI (grpK t.n t.b s b) b) ∈ gB t s a b → gB t s (a + 1) b = gB t s a b := fun _ h2 => if_neg fun h => h.2 h2
     have Kn : ¬ inc t.b a (gI (grpK t.n t.b s b) b) = true → gB t s (a + 1) b = gB t s a b := fun h1 => if_neg fun h => h1 h.1
     have cS : cntN (a + 1) (fun j => inc t.b j (gI (grpK t.n t.b s b) b)) = cntN a (fun j => inc t.b j (gI (grpK t.n t.b s b) b)) + if inc t.b a (gI (grpK t.n t.b s b) b) = true then 1 else 0 := rfl
     have ex : t.b a 0 + t.b a (0 + (0 + 1)) - gI (grpK t.n t.b s b) b = othr t.b a (gI (grpK t.n t.b s b) b) := rfl
     have e1 : t.b a (0 + (0 + 1)) = t.b a 1 := rfl
     rw [e1] at ex ⊢
     refine ⟨by omega, by omega, by omega, by omega, fun h0 => ⟨by omega, by omega, fun h1 => ?_, fun h1 => ?_⟩, fun h0 => ?_⟩
     · have hi : ¬ inc t.b a (gI (grpK t.n t.b s b) b) = true := fun h => (inc_iff.1 h).elim h0 h1
       have e := Kn hi
       exact ⟨by omega, by omega, a + 1, by omega, hb, by omega, by rw [e], by rw [cS, if_neg hi]; rfl, by omega, fun ks => by rw [e], by rw [e], fun i _ => by rw [e]⟩
     · have hi : inc t.b a (gI (grpK t.n t.b s b) b) = true := inc_iff.2 (.inr h1)
       refine ⟨by omega, by omega, by omega, by omega, by omega, by omega, by omega, by omega, by omega, by omega, fun hN => ?_, fun hN => ?_⟩
       · rw [inK_val, Bool.not_eq_true', decide_eq_false_iff_not] at hN
         rw [ex] at hN
         have e := K1 hi hN
         refine ⟨by omega, by omega, by omega, by omega, by omega, by omega, a + 1, by omega, hb, by omega, by rw [e]; exact len_put, by rw [cS, if_pos hi]; omega, by omega, fun ks => ?_, by rw [e]; exact len_put, fun i hi' => ?_⟩
         · rw [e, ex]; exact inK_put
         · rw [e, ex]; exact gI_put hi'
       · rw [inK_val, Bool.not_eq_false', decide_eq_true_eq] at hN
         rw [ex] at hN
         have e := K0 hi hN
         exact ⟨by omega, by omega, a + 1, by omega, hb, by omega, by rw [e], by rw [cS, if_pos hi]; omega, by omega, fun ks => by rw [e], by rw [e], fun i _ => by rw [e]⟩
     · have hi : inc t.b a (gI (grpK t.n t.b s b) b) = true := inc_iff.2 (.inl h0)
       refine ⟨by omega, by omega, by omega, by omega, by omega, by omega, by omega, by omega, by omega, by omega, fun hN => ?_, fun hN => ?_⟩
       · rw [inK_val, Bool.not_eq_true', decide_eq_false_iff_not] at hN
         rw [ex] at hN
         have e := K1 hi hN
         refine ⟨by omega, by omega, by omega, by omega, by omega, by omega, a + 1, by omega, hb, by omega, by rw [e]; exact len_put, by rw [cS, if_pos hi]; omega, by omega, fun ks => ?_, by rw [e]; exact len_put, fun i hi' => ?_⟩
         · rw [e, ex]; exact inK_put
         · rw [e, ex]; exact gI_put hi'
       · rw [inK_val, Bool.not_eq_false', decide_eq_true_eq] at hN
         rw [ex] at hN
         have e := K0 hi hN
         exact ⟨by omega, by omega, a + 1, by omega, hb, by omega, by rw [e], by rw [cS, if_pos hi]; omega, by omega, fun ks => by rw [e], by rw [e], fun i _ => by rw [e]⟩
   · obtain rfl : a = t.n := by omega
     have eK : grpK t.n t.b s (b + 1) = gB t s t.n b := grpK_succ hb
     have eO := oddT_succ (n := t.n) (b := t.b) (s := s) (i := b) hb
     have h36 := K36 b
     have hol := odL b
     have hcm : (cntN t.n (fun j => inc t.b j (gI (grpK t.n t.b s b) b)) : Int).tmod 2 = ((cntN t.n (fun j => inc t.b j (gI (grpK t.n t.b s b) b)) % 2 : Nat) : Int) := by
       rw [Int.tmod_eq_emod_of_nonneg (by omega)]; omega
     have eodd : oddB t.n t.b (gI (grpK t.n t.b s b) b) = decide (cntN t.n (fun j => inc t.b j (gI (grpK t.n t.b s b) b)) % 2 = 1) := oddB_meets
     rw [hcm]
     refine ⟨by omega, fun ho => ?_, fun ho => ?_⟩
     · have e : oddT t.n t.b s (b + 1) = oddT t.n t.b s b ++ [gI (grpK t.n t.b s b) b] := by rw [eO, if_pos]; rw [eodd, decide_eq_true_eq]; omega
       exact ⟨by omega, by omega, by omega, by omega, by omega, by omega, b + 1, by omega, by rw [eK]; omega, by omega, by rw [eK], by rw [e]; exact len_put, by omega, fun ks => by rw [eK], by rw [eK], fun i _ => by rw [eK], by rw [e]; exact len_put, fun i hi => by rw [e]; exact gI_put hi⟩
     · have e : oddT t.n t.b s (b + 1) = oddT t.n t.b s b := by rw [eO, if_neg]; rw [eodd, decide_eq_true_eq]; omega
       exact ⟨by omega, by omega, b + 1, by omega, by rw [eK]; omega, by omega, by rw [eK], by rw [e], by omega, fun ks => by rw [eK], by rw [eK], fun i _ => by rw [eK], by rw [e], fun i _ => by rw [e]⟩
 · have e := grpK_end hk ⟨hs0, hs1⟩ hg.1 (show (grpK t.n t.b s g).length ≤ g by omega)
   have eo := oddT_end (n := t.n) (b := t.b) (s := s) (show (grpK t.n t.b s g).length ≤ g by omega) e
   rw [eo, e]
   exact ⟨rfl, fun _ _ => rfl, rfl, fun _ _ => rfl⟩
end Go.Proofs.YtcfmdhlohahhcaaDoor
