/- Texts for the law of the last part, part 14. -/
import Derived.Test.YtcfmdhlohahhcaaDoorTwineP13
set_option linter.unusedSimpArgs false
set_option linter.unusedVariables false
namespace Nm
open Go Go.Sx
theorem pigeon : ∀ (m n : Nat) (f : Nat → Nat), (∀ i, i < n → f i < m) → (∀ i, i < n → ∀ j, j < n → f i = f j → i = j) → n ≤ m
 | 0, n, f, hf, _ => by
   cases n with
   | zero => omega
   | succ n => exact absurd (hf 0 (by omega)) (by omega)
 | m + 1, n, f, hf, hi => by
   cases n with
   | zero => omega
   | succ n =>
     by_cases h : ∃ i0, i0 < n + 1 ∧ f i0 = m
     · obtain ⟨i0, h0, e0⟩ := h
       have g := pigeon m n (fun i => if i = i0 then f n else f i) (fun i hin => by
         show (if i = i0 then f n else f i) < m
         by_cases c : i = i0
         · rw [if_pos c]
           have a := hf n (by omega)
           have b : f n ≠ m := fun e => by
             have := hi n (by omega) i0 h0 (e.trans e0.symm)
             omega
           omega
         · rw [if_neg c]
           have a := hf i (by omega)
           have b : f i ≠ m := fun e => c (hi i (by omega) i0 h0 (e.trans e0.symm))
           omega) (fun i hin j hj e => by
         have e : (if i = i0 then f n else f i) = (if j = i0 then f n else f j) := e
         by_cases c : i = i0 <;> by_cases d : j = i0
         · omega
         · rw [if_pos c, if_neg d] at e
           have := hi n (by omega) j (by omega) e
           omega
         · rw [if_neg c, if_pos d] at e
           have := hi i (by omega) n (by omega) e
           omega
         · rw [if_neg c, if_neg d] at e
           exact hi i (by omega) j (by omega) e)
       omega
     · have g := pigeon m (n + 1) f (fun i hin => by
         have a := hf i hin
         have b : f i ≠ m := fun e => h ⟨i, hin, e⟩
         omega) hi
       omega
theorem barB_iff {w h f t : Int} : barB w h f t = true ↔ (0 ≤ f ∧ f ≤ w * h - 1) ∧ (0 ≤ t ∧ t ≤ w * h - 1) ∧ (t = f + w ∨ t = f + 1 ∧ t % w ≠ 0) := by
 simp only [barB, Bool.and_eq_true, Bool.or_eq_true, decide_eq_true_eq, within_iff, and_assoc]
theorem barEq_iff {b : Nat → Nat → Int} {x y : Int} {i : Nat} : barEq b x y i = true ↔ b i 0 = x ∧ b i 1 = y := by
 simp only [barEq, Bool.and_eq_true, decide_eq_true_eq]
theorem newB_iff {b : Nat → Nat → Int} {x y : Int} {n : Nat} : newB b x y n = true ↔ ∀ i, i < n → ¬ (b i 0 = x ∧ b i 1 = y) := by
 unfold newB
 rw [allB_iff]
 refine forall_congr' fun i => imp_congr_right fun _ => ?_
 rw [Bool.not_eq_true', ← barEq_iff, Bool.eq_false_iff]
structure TkOk (t : Torn) : Prop where
 t0 : tk0 t = true
 wl : 2 ≤ t.w
 wu : t.w ≤ 6
 hl : 2 ≤ t.h
 hu : t.h ≤ 6
 bar : ∀ i, i < t.n → barB t.w t.h (t.b i 0) (t.b i 1) = true
 dif : ∀ i, i < t.n → ∀ j, j < t.n → t.b i 0 = t.b j 0 → t.b i 1 = t.b j 1 → i = j
 few : t.n ≤ 72
theorem tchk_ok {t : Torn} (h : tchk t = true) : TkOk t := by
 unfold tchk tkI at h
 rw [Bool.and_eq_true, allB_iff] at h
 obtain ⟨h0, h1⟩ := h
 obtain ⟨⟨w1, w2⟩, ⟨v1, v2⟩, _⟩ := tk0_iff.1 h0
 have hb : ∀ i, i < t.n → barB t.w t.h (t.b i 0) (t.b i 1) = true := fun i hi => by
   have := h1 i hi; unfold tkO at this; rw [Bool.and_eq_true] at this; exact this.1
 have hd : ∀ i, i < t.n → ∀ j, j < i → ¬ (t.b j 0 = t.b i 0 ∧ t.b j 1 = t.b i 1) := fun i hi => by
   have := h1 i hi; unfold tkO at this; rw [Bool.and_eq_true, newB_iff] at this; exact this.2
 have dif : ∀ i, i < t.n → ∀ j, j < t.n → t.b i 0 = t.b j 0 → t.b i 1 = t.b j 1 → i = j := fun i hi j hj e0 e1 => by
   by_cases c : i < j
   · exact absurd ⟨e0, e1⟩ (hd j hj i c)
   · by_cases d : j < i
     · exact absurd ⟨e0.symm, e1.symm⟩ (hd i hi j d)
     · omega
 have P := Go.Proofs.YtcfmdhlohahhcaaDoor.wh_bd w1 w2 v1 v2
 refine ⟨h0, w1, w2, v1, v2, hb, dif, ?_⟩
 refine pigeon 72 t.n (fun i => (if t.b i 1 = t.b i 0 + t.w then 2 * t.b i 0 else 2 * t.b i 0 + 1).toNat) (fun i hi => ?_) fun i hi j hj e => ?_
 · obtain ⟨⟨a1, a2⟩, _⟩ := barB_iff.1 (hb i hi)
   show (if t.b i 1 = t.b i 0 + t.w then 2 * t.b i 0 else 2 * t.b i 0 + 1).toNat < 72
   split <;> omega
 · have e : (if t.b i 1 = t.b i 0 + t.w then 2 * t.b i 0 else 2 * t.b i 0 + 1).toNat = (if t.b j 1 = t.b j 0 + t.w then 2 * t.b j 0 else 2 * t.b j 0 + 1).toNat := e
   obtain ⟨⟨a1, a2⟩, _, a3⟩ := barB_iff.1 (hb i hi)
   obtain ⟨⟨b1, b2⟩, _, b3⟩ := barB_iff.1 (hb j hj)
   by_cases c : t.b i 1 = t.b i 0 + t.w <;> by_cases d : t.b j 1 = t.b j 0 + t.w
   · rw [if_pos c, if_pos d] at e; exact dif i hi j hj (by omega) (by omega)
   · rw [if_pos c, if_neg d] at e; omega
   · rw [if_neg c, if_pos d] at e; omega
   · rw [if_neg c, if_neg d] at e; exact dif i hi j hj (by omega) (by omega)
structure Pcs where
 np : Nat
 len : Nat → Nat
 kn : Nat → Nat → Int
def Pcs.wf (p : Pcs) : Prop := p.np ≤ 1073741824 ∧ ∀ i, i < p.np → p.len i ≤ 1073741824 ∧ ∀ k, k < p.len i → iR (p.kn i k)
def pcsCV (p : Pcs) : CV := .vs 1 p.np fun i _ => .vs 1 (p.len i) fun k _ => .int .i64 (p.kn i k)
def pcsTV (p : Pcs) : TV := .c (pcsCV p)
def stL (p : Pcs) (i k : Nat) : Int := imin (p.kn i k) (p.kn i (k + 1))
def stH (p : Pcs) (i k : Nat) : Int := imax (p.kn i k) (p.kn i (k + 1))
def hasB (t : Torn) (x y : Int) : Bool := !newB t.b x y t.n
def cntK (t : Torn) (p : Pcs) (i j : Nat) : Nat → Nat
 | 0 => 0
 | k + 1 => cntK t p i j k + if barEq t.b (stL p i k) (stH p i k) j then 1 else 0
def cntI (t : Torn) (p : Pcs) (j : Nat) : Nat → Nat
 | 0 => 0
 | i + 1 => cntI t p j i + cntK t p i j (p.len i - 1)
def fndK (t : Torn) (p : Pcs) (i k : Nat) : Bool := allB k fun k => hasB t (stL p i k) (stH p i k)
def okI (t : Torn) (p : Pcs) (i : Nat) : Bool := allB i fun i => decide (2 ≤ p.len i) && fndK t p i (p.len i - 1)
def isM (t : Torn) (p : Pcs) : Bool := okI t p p.np && allB t.n fun j => decide (cntI t p j p.np = 1)
theorem okI_succ {t : Torn} {p : Pcs} {i : Nat} : okI t p (i + 1) = (okI t p i && (decide (2 ≤ p.len i) && fndK t p i (p.len i - 1))) := rfl
theorem fndK_succ {t : Torn} {p : Pcs} {i k : Nat} : fndK t p i (k + 1) = (fndK t p i k && hasB t (stL p i k) (stH p i k)) := rfl
theorem hasB_iff {t : Torn} {x y : Int} : hasB t x y = true ↔ ∃ j, j < t.n ∧ t.b j 0 = x ∧ t.b j 1 = y := by
 unfold hasB
 rw [Bool.not_eq_true', Bool.eq_false_iff, ne_eq, newB_iff]
 constructor
 · intro h
   apply Classical.byContradiction
   intro g
   exact h fun i hi e => g ⟨i, hi, e⟩
 · intro ⟨j, hj, e⟩ h
   exact h j hj e
theorem allB_false {n : Nat} {p : Nat → Bool} (i : Nat) (hi : i < n) (h : p i = false) : allB n p = false := by
 cases e : allB n p with
 | false => rfl
 | true => rw [allB_iff.1 e i hi] at h; cases h
theorem no_len {t : Torn} {p : Pcs} {i : Nat} (hi : i < p.np) (h : p.len i < 2) : isM t p = false := by
 unfold isM okI
 rw [allB_false i hi (by rw [decide_eq_false (by omega)]; rfl)]; rfl
theorem no_has {t : Torn} {p : Pcs} {i k : Nat} (hi : i < p.np) (hk : k < p.len i - 1) (h : hasB t (stL p i k) (stH p i k) = false) : isM t p = false := by
 unfold isM okI
 rw [allB_false i hi (by unfold fndK; rw [allB_false k hk h, Bool.and_false])]; rfl
theorem cntK_mono {t : Torn} {p : Pcs} {i j : Nat} : ∀ {k l : Nat}, k ≤ l → cntK t p i j k ≤ cntK t p i j l := by
 intro k l h
 induction l with
 | zero => rw [show k = 0 by omega]; exact Nat.le_refl _
 | succ l ih =>
   by_cases c : k = l + 1
   · rw [c]; exact Nat.le_refl _
   · have := ih (by omega)
     rw [cntK]; omega
theorem cntI_mono {t : Torn} {p : Pcs} {j : Nat} : ∀ {k l : Nat}, k ≤ l → cntI t p j k ≤ cntI t p j l := by
 intro k l h
 induction l with
 | zero => rw [show k = 0 by omega]; exact Nat.le_refl _
 | succ l ih =>
   by_cases c : k = l + 1
   · rw [c]; exact Nat.le_refl _
   · have := ih (by omega)
     rw [cntI]; omega
theorem no_two {t : Torn} {p : Pcs} {i k j : Nat} (hi : i < p.np) (hk : k < p.len i - 1) (hj : j < t.n) (hb : barEq t.b (stL p i k) (stH p i k) j = true) (h : 1 ≤ cntI t p j i + cntK t p i j k) : isM t p = false := by
 unfold isM
 rw [allB_false j hj, Bool.and_false]
 have a := cntK_mono (t := t) (p := p) (i := i) (j := j) (show k + 1 ≤ p.len i - 1 by omega)
 have b := cntI_mono (t := t) (p := p) (j := j) (show i + 1 ≤ p.np by omega)
 have c : cntK t p i j (k + 1) = cntK t p i j k + 1 := by rw [cntK, if_pos hb]
 have d : cntI t p j (i + 1) = cntI t p j i + cntK t p i j (p.len i - 1) := rfl
 exact decide_eq_false (by omega)
def sumT (f : Nat → Nat) : Nat → Nat
 | 0 => 0
 | n + 1 => sumT f n + f n
theorem sumT_add {f g : Nat → Nat} : ∀ n, sumT (fun j => f j + g j) n = sumT f n + sumT g n
 | 0 => rfl
 | n + 1 => by rw [sumT, sumT, sumT, sumT_add n]; omega
theorem sumT_ge {f : Nat → Nat} {n j : Nat} (hj : j < n) : f j ≤ sumT f n := by
 induction n with
 | zero => omega
 | succ n ih =>
   rw [sumT]
   by_cases c : j = n
   · subst c; omega
   · have := ih (by omega); omega
theorem sumT_congr {f g : Nat → Nat} {n : Nat} (h : ∀ j, j < n → f j = g j) : sumT f n = sumT g n := by
 induction n with
 | zero => rfl
 | succ n ih => rw [sumT, sumT, ih fun j hj => h j (by omega), h n (by omega)]
theorem sumT_one {n : Nat} : sumT (fun _ => 1) n = n := by
 induction n with
 | zero => rfl
 | succ n ih => rw [sumT, ih]
theorem few_np {t : Torn} {p : Pcs} {i : Nat} (h : okI t p i = true) : i ≤ sumT (fun j => cntI t p j i) t.n := by
 induction i with
 | zero => omega
 | succ i ih =>
   rw [okI_succ, Bool.and_eq_true, Bool.and_eq_true, decide_eq_true_eq] at h
   obtain ⟨h1, h2, h3⟩ := h
   have e : (fun j => cntI t p j (i + 1)) = fun j => cntI t p j i + cntK t p i j (p.len i - 1) := rfl
   rw [e, sumT_add]
   have a := ih h1
   have : 1 ≤ sumT (fun j => cntK t p i j (p.len i - 1)) t.n := by
     unfold fndK at h3
     obtain ⟨j, hj, e0, e1⟩ := hasB_iff.1 (allB_iff.1 h3 0 (by omega))
     have b := sumT_ge (f := fun j => cntK t p i j (p.len i - 1)) hj
     have c := cntK_mono (t := t) (p := p) (i := i) (j := j) (show 1 ≤ p.len i - 1 by omega)
     have d : cntK t p i j 1 = 1 := by rw [cntK, cntK, if_pos (barEq_iff.2 ⟨e0, e1⟩)]
     have b : cntK t p i j (p.len i - 1) ≤ sumT (fun j => cntK t p i j (p.len i - 1)) t.n := b
     omega
   omega
theorem np_few {t : Torn} {p : Pcs} (h : isM t p = true) : p.np ≤ t.n := by
 unfold isM at h
 rw [Bool.and_eq_true, allB_iff] at h
 have a := few_np h.1
 rw [sumT_congr (g := fun _ => 1) fun j hj => by have := h.2 j hj; rw [decide_eq_true_eq] at this; exact this, sumT_one] at a
 exact a
def numM (b : Nat → Nat → Int) : Nat → List Int → Option Int
 | 0, _ => none
 | g + 1, ks => if ks = [b g 0, b g (0 + 1)] then some (g : Int) else numM b g ks
theorem numM_some {b : Nat → Nat → Int} {x y v : Int} : ∀ {g : Nat}, numM b g [x, y] = some v → ∃ j : Nat, j < g ∧ v = j ∧ b j 0 = x ∧ b j 1 = y
 | 0, h => by cases h
 | g + 1, h => by
   unfold numM at h
   split at h
   · rename_i e
     injection h with h
     simp only [List.cons.injEq, and_true] at e
     exact ⟨g, by omega, h.symm, e.1.symm, e.2.symm⟩
   · obtain ⟨j, hj, r⟩ := numM_some h
     exact ⟨j, by omega, r⟩
theorem numM_none {b : Nat → Nat → Int} {x y : Int} : ∀ {g : Nat}, numM b g [x, y] = none → newB b x y g = true
 | 0, _ => rfl
 | g + 1, h => by
   unfold numM at h
   split at h
   · cases h
   · rename_i e
     have := newB_iff.1 (numM_none h)
     refine newB_iff.2 fun i hi c => ?_
     by_cases d : i = g
     · subst d; exact e (by rw [← c.1, ← c.2])
     · exact this i (by omega) c
end Nm
namespace Nm
open Go Go.Sx
structure Th where
 q : Option Nat
 f : Int
 t : Int
structure SpS where
 lf : Nat → Bool
 jn : Int → Option Int
def xorN : Nat → (Nat → Bool) → Bool
 | 0, _ => false
 | n + 1, p => xorN n p ^^ p n
def inc (b : Nat → Nat → Int) (i : Nat) (v : Int) : Bool := decide (b i 0 = v) || decide (b i 1 = v)
def par (n : Nat) (b : Nat → Nat → Int) (s : SpS) (v : Int) : Bool := xorN n (fun i => s.lf i && inc b i v) ^^ (s.jn v).isSome
def Walk : Int → List Th → Int → Prop
 | e, [], k => e = k
 | e, x :: l, k => x.f = e ∧ Walk x.t l k
def usedB (l : List Th) (i : Nat) : Bool := l.any fun x => x.q == some i
def usedJ (l : List Th) (v : Int) : Bool := l.any fun x => x.q.isNone && (decide (x.f = v) || decide (x.t = v))
def seen (l : List Th) (v : Int) : Prop := ∃ x ∈ l, x.f = v ∨ x.t = v
def ThNe (x y : Th) : Prop := (∀ i j, x.q = some i → y.q = some j → i ≠ j) ∧ (x.q = none → y.q = none → x.f ≠ y.f ∧ x.f ≠ y.t ∧ x.t ≠ y.f ∧ x.t ≠ y.t)
theorem ThNe.symm {x y : Th} (h : ThNe x y) : ThNe y x := ⟨fun i j a c e => h.1 j i c a e.symm, fun a c => let ⟨h1, h2, h3, h4⟩ := h.2 c a; ⟨fun e => h1 e.symm, fun e => h3 e.symm, fun e => h2 e.symm, fun e => h4 e.symm⟩⟩
def ThOk (n : Nat) (b : Nat → Nat → Int) (s : SpS) (x : Th) : Prop := match x.q with
 | some i => i < n ∧ s.lf i = true ∧ ((x.f = b i 0 ∧ x.t = b i 1) ∨ (x.f = b i 1 ∧ x.t = b i 0))
 | none => s.jn x.f = some x.t ∧ s.jn x.t = some x.f
structure Acc (n : Nat) (b : Nat → Nat → Int) (s : SpS) (l : List Th) (s' : SpS) : Prop where
 lf : ∀ i, s'.lf i = (s.lf i && !usedB l i)
 jn : ∀ v, s'.jn v = if usedJ l v = true then none else s.jn v
 ok : ∀ x ∈ l, ThOk n b s x
 nod : l.Pairwise ThNe
theorem usedB_iff {l : List Th} {i : Nat} : usedB l i = true ↔ ∃ x ∈ l, x.q = some i := by
 simp only [usedB, List.any_eq_true, beq_iff_eq]
theorem usedJ_iff {l : List Th} {v : Int} : usedJ l v = true ↔ ∃ x ∈ l, x.q = none ∧ (x.f = v ∨ x.t = v) := by
 simp only [usedJ, List.any_eq_true, Bool.and_eq_true, Bool.or_eq_true, decide_eq_true_eq, Option.isNone_iff_eq_none]
theorem usedB_append {l m : List Th} {i : Nat} : usedB (l ++ m) i = (usedB l i || usedB m i) := by simp only [usedB, List.any_append]
theorem usedJ_append {l m : List Th} {v : Int} : usedJ (l ++ m) v = (usedJ l v || usedJ m v) := by simp only [usedJ, List.any_append]
theorem Walk.append : ∀ {l m : List Th} {e k h : Int}, Walk e l k → Walk k m h → Walk e (l ++ m) h
 | [], m, e, k, h, h1, h2 => by have h1 : e = k := h1; subst h1; exact h2
 | x :: l, m, e, k, h, h1, h2 => ⟨h1.1, h1.2.append h2⟩
theorem Walk.append_iff : ∀ {l m : List Th} {e h : Int}, Walk e (l ++ m) h ↔ ∃ k, Walk e l k ∧ Walk k m h
 | [], m, e, h => ⟨fun w => ⟨e, rfl, w⟩, fun ⟨k, h1, h2⟩ => by have h1 : e = k := h1; subst h1; exact h2⟩
 | x :: l, m, e, h => by
   show (x.f = e ∧ Walk x.t (l ++ m) h) ↔ ∃ k, (x.f = e ∧ Walk x.t l k) ∧ Walk k m h
   rw [Walk.append_iff]
   exact ⟨fun ⟨a, k, c, d⟩ => ⟨k, ⟨a, c⟩, d⟩, fun ⟨k, ⟨a, c⟩, d⟩ => ⟨a, k, c, d⟩⟩
theorem ThOk.of {n : Nat} {b : Nat → Nat → Int} {s s' : SpS} {x : Th} (h : ThOk n b s' x) (h1 : ∀ i, s'.lf i = true → s.lf i = true) (h2 : ∀ v w, s'.jn v = some w → s.jn v = some w) : ThOk n b s x := by
 unfold ThOk at h ⊢
 split
 · rename_i i e
   rw [e] at h
   exact ⟨h.1, h1 i h.2.1, h.2.2⟩
 · rename_i e
   rw [e] at h
   exact ⟨h2 _ _ h.1, h2 _ _ h.2⟩
theorem Acc.sub_lf {n : Nat} {b : Nat → Nat → Int} {s s' : SpS} {l : List Th} (h : Acc n b s l s') {i : Nat} (e : s'.lf i = true) : s.lf i = true ∧ usedB l i = false := by
 rw [h.lf, Bool.and_eq_true, Bool.not_eq_true'] at e; exact e
theorem Acc.sub_jn {n : Nat} {b : Nat → Nat → Int} {s s' : SpS} {l : List Th} (h : Acc n b s l s') {v w : Int} (e : s'.jn v = some w) : s.jn v = some w ∧ usedJ l v = false := by
 rw [h.jn] at e
 split at e
 · cases e
 · rename_i c; exact ⟨e, by simpa using c⟩
theorem Acc.nil {n : Nat} {b : Nat → Nat → Int} {s : SpS} : Acc n b s [] s :=
 ⟨fun i => by simp [usedB], fun v => by simp [usedJ], fun x h => (by cases h), List.Pairwise.nil⟩
theorem Acc.append {n : Nat} {b : Nat → Nat → Int} {s s1 s2 : SpS} {l m : List Th} (h : Acc n b s l s1) (h' : Acc n b s1 m s2) : Acc n b s (l ++ m) s2 := by
 refine ⟨fun i => ?_, fun v => ?_, fun x hx => ?_, ?_⟩
 · rw [h'.lf, h.lf, usedB_append]; cases s.lf i <;> cases usedB l i <;> rfl
 · rw [h'.jn, h.jn, usedJ_append]
   cases usedJ l v <;> cases usedJ m v <;> rfl
 · rcases List.mem_append.1 hx with hx | hx
   · exact h.ok x hx
   · exact (h'.ok x hx).of (fun i e => (h.sub_lf e).1) fun v w e => (h.sub_jn e).1
 · rw [List.pairwise_append]
   refine ⟨h.nod, h'.nod, fun x hx y hy => ?_⟩
   have oy := h'.ok y hy
   unfold ThOk at oy
   refine ⟨fun i j ei ej e => ?_, fun ei ej => ?_⟩
   · subst e
     rw [ej] at oy
     have := (h.sub_lf oy.2.1).2
     rw [usedB_iff.2 ⟨x, hx, ei⟩] at this; cases this
   · rw [ej] at oy
     have a := (h.sub_jn oy.1).2
     have c := (h.sub_jn oy.2).2
     have no : ∀ v, usedJ l v = false → x.f ≠ v ∧ x.t ≠ v := fun v hv => ⟨fun e => (by rw [usedJ_iff.2 ⟨x, hx, ei, .inl e⟩] at hv; cases hv), fun e => (by rw [usedJ_iff.2 ⟨x, hx, ei, .inr e⟩] at hv; cases hv)⟩
     exact ⟨(no _ a).1, (no _ c).1, (no _ a).2, (no _ c).2⟩
theorem Acc.perm {n : Nat} {b : Nat → Nat → Int} {s s' : SpS} {l m : List Th} (h : Acc n b s l s') (p : l.Perm m) : Acc n b s m s' := by
 refine ⟨fun i => ?_, fun v => ?_, fun x hx => h.ok x (p.mem_iff.2 hx), p.pairwise h.nod fun h => h.symm⟩
 · rw [h.lf]
   congr 2
   rw [Bool.eq_iff_iff, usedB_iff, usedB_iff]
   exact ⟨fun ⟨x, hx, e⟩ => ⟨x, p.mem_iff.1 hx, e⟩, fun ⟨x, hx, e⟩ => ⟨x, p.mem_iff.2 hx, e⟩⟩
 · rw [h.jn]
   congr 2
   rw [Bool.eq_iff_iff, usedJ_iff, usedJ_iff]
   exact ⟨fun ⟨x, hx, e⟩ => ⟨x, p.mem_iff.1 hx, e⟩, fun ⟨x, hx, e⟩ => ⟨x, p.mem_iff.2 hx, e⟩⟩
def offB (s : SpS) (i : Nat) : SpS := ⟨fun j => s.lf j && !decide (j = i), s.jn⟩
def offJ (s : SpS) (x y : Int) : SpS := ⟨s.lf, fun v => if v = x ∨ v = y then none else s.jn v⟩
theorem Acc.bar {n : Nat} {b : Nat → Nat → Int} {s : SpS} {i : Nat} (hi : i < n) (h : s.lf i = true) {f t : Int} (he : (f = b i 0 ∧ t = b i 1) ∨ (f = b i 1 ∧ t = b i 0)) : Acc n b s [⟨some i, f, t⟩] (offB s i) := by
 refine ⟨fun j => ?_, fun v => by simp [usedJ, offB], fun x hx => ?_, List.pairwise_singleton _ _⟩
 · show (s.lf j && !decide (j = i)) = (s.lf j && !usedB _ j)
   congr 2
   rw [Bool.eq_iff_iff, usedB_iff, decide_eq_true_eq]
   exact ⟨fun e => ⟨_, List.mem_singleton.2 rfl, by rw [e]⟩, fun ⟨x, hx, e⟩ => by rw [List.mem_singleton.1 hx] at e; injection e with e; exact e.symm⟩
 · rw [List.mem_singleton.1 hx]; exact ⟨hi, h, he⟩
theorem Acc.join {n : Nat} {b : Nat → Nat → Int} {s : SpS} {f t : Int} (h1 : s.jn f = some t) (h2 : s.jn t = some f) : Acc n b s [⟨none, f, t⟩] (offJ s f t) := by
 refine ⟨fun j => by simp [usedB, offJ], fun v => ?_, fun x hx => ?_, List.pairwise_singleton _ _⟩
 · show (if v = f ∨ v = t then none else s.jn v) = _
   have : usedJ [⟨none, f, t⟩] v = decide (v = f ∨ v = t) := by
     rw [Bool.eq_iff_iff, usedJ_iff, decide_eq_true_eq]
     exact ⟨fun ⟨x, hx, _, e⟩ => by rw [List.mem_singleton.1 hx] at e; exact e.imp Eq.symm Eq.symm, fun e => ⟨_, List.mem_singleton.2 rfl, rfl, e.imp Eq.symm Eq.symm⟩⟩
   rw [this]
   by_cases c : v = f ∨ v = t
   · rw [if_pos c, if_pos (decide_eq_true c)]
   · rw [if_neg c, if_neg (by rw [decide_eq_false c]; decide)]
 · rw [List.mem_singleton.1 hx]; exact ⟨h1, h2⟩
theorem xorN_congr {n : Nat} {p q : Nat → Bool} (h : ∀ i, i < n → p i = q i) : xorN n p = xorN n q := by
 induction n with
 | zero => rfl
 | succ n ih => rw [xorN, xorN, ih fun i hi => h i (by omega), h n (by omega)]
theorem xorN_false {n : Nat} {p : Nat → Bool} (h : ∀ i, i < n → p i = false) : xorN n p = false := by
 induction n with
 | zero => rfl
 | succ n ih => rw [xorN, ih fun i hi => h i (by omega), h n (by omega)]; rfl
theorem xorN_one {n : Nat} {p q : Nat → Bool} {i : Nat} (hi : i < n) (h : ∀ j, j < n → j ≠ i → p j = q j) : xorN n p = (xorN n q ^^ (p i ^^ q i)) := by
 induction n with
 | zero => omega
 | succ n ih =>
   rw [xorN, xorN]
   by_cases c : i = n
   · subst c
     rw [xorN_congr (p := p) (q := q) fun j hj => h j (by omega) (by omega)]
     cases xorN i q <;> cases p i <;> cases q i <;> rfl
   · rw [ih (by omega) fun j hj => h j (by omega), h n (by omega) fun e => c e.symm]
     cases xorN n q <;> cases p i <;> cases q i <;> cases q n <;> rfl
def cntN : Nat → (Nat → Bool) → Nat
 | 0, _ => 0
 | n + 1, p => cntN n p + (if p n then 1 else 0)
theorem cntN_le {p q : Nat → Bool} : ∀ {n : Nat}, (∀ i, i < n → p i = true → q i = true) → cntN n p ≤ cntN n q
 | 0, _ => Nat.le_refl _
 | n + 1, h => by
   have := cntN_le (n := n) fun i hi => h i (by omega)
   rw [cntN, cntN]
   cases e : p n with
   | false => simp only [Bool.false_eq_true, if_false]; omega
   | true => rw [h n (by omega) e]; omega
theorem cntN_lt {p q : Nat → Bool} {i : Nat} : ∀ {n : Nat}, i < n → (∀ i, i < n → p i = true → q i = true) → p i = false → q i = true → cntN n p < cntN n q
 | 0, hi, _, _, _ => by omega
 | n + 1, hi, h, h1, h2 => by
   rw [cntN, cntN]
   by_cases c : i = n
   · subst c
     have := cntN_le (n := i) fun j hj => h j (by omega)
     rw [h1, h2]; simp only [Bool.false_eq_true, if_false, if_true]; omega
   · have := cntN_lt (n := n) (by omega) (fun j hj => h j (by omega)) h1 h2
     cases e : p n with
     | false => simp only [Bool.false_eq_true, if_false]; omega
     | true => rw [h n (by omega) e]; omega
theorem cntN_max {p : Nat → Bool} : ∀ {n : Nat}, cntN n p ≤ n
 | 0 => Nat.le_refl _
 | n + 1 => by have := cntN_max (p := p) (n := n); rw [cntN]; split <;> omega
def muS (n : Nat) (s : SpS) : Nat := cntN n s.lf + cntN 36 (fun v => (s.jn (v : Int)).isSome)
theorem muS_offB {n : Nat} {s : SpS} {i : Nat} (hi : i < n) (h : s.lf i = true) : muS n (offB s i) < muS n s := by
 have := cntN_lt (p := (offB s i).lf) (q := s.lf) hi (fun j _ e => by
   have e : (s.lf j && !decide (j = i)) = true := e
   rw [Bool.and_eq_true] at e; exact e.1) (by show (s.lf i && !decide (i = i)) = false; simp) h
 unfold muS
 have e : (fun v : Nat => ((offB s i).jn (v : Int)).isSome) = fun v : Nat => (s.jn (v : Int)).isSome := rfl
 rw [e]; omega
theorem muS_offJ {n : Nat} {s : SpS} {x y : Int} (h : s.jn x = some y) (h0 : 0 ≤ x) (h1 : x < 36) : muS n (offJ s x y) < muS n s := by
 have := cntN_lt (n := 36) (i := x.toNat) (p := fun v => ((offJ s x y).jn (v : Int)).isSome) (q := fun v => (s.jn (v : Int)).isSome) (by omega) (fun j _ e => by
   have e : (if (j : Int) = x ∨ (j : Int) = y then none else s.jn (j : Int)).isSome = true := e
   show (s.jn (j : Int)).isSome = true
   split at e
   · cases e
   · exact e) (by show (if ((x.toNat : Nat) : Int) = x ∨ ((x.toNat : Nat) : Int) = y then none else s.jn _).isSome = false; rw [if_pos (.inl (by omega))]; rfl) (by show (s.jn ((x.toNat : Nat) : Int)).isSome = true; rw [show ((x.toNat : Nat) : Int) = x by omega, h]; rfl)
 unfold muS
 have e : (offJ s x y).lf = s.lf := rfl
 rw [e]; omega
structure GrOk (n : Nat) (b : Nat → Nat → Int) (C : Int → Prop) : Prop where
 ne : ∀ i, i < n → b i 0 ≠ b i 1
 cl : ∀ i, i < n → (C (b i 0) ↔ C (b i 1))
 kn : ∀ i, i < n → (0 ≤ b i 0 ∧ b i 0 < 36) ∧ 0 ≤ b i 1 ∧ b i 1 < 36
structure JnOk (C : Int → Prop) (s : SpS) : Prop where
 sy : ∀ v w, s.jn v = some w → s.jn w = some v ∧ v ≠ w ∧ C v
 kn : ∀ v w, s.jn v = some w → 0 ≤ v ∧ v < 36
structure SpPre (n : Nat) (b : Nat → Nat → Int) (C : Int → Prop) (s : SpS) (k e : Int) : Prop where
 jo : JnOk C s
 ck : C k
 pr : ∀ v, C v → par n b s v = (decide (v = k) ^^ decide (v = e))
def Clo (n : Nat) (b : Nat → Nat → Int) (s : SpS) (v : Int) : Prop := (∀ i, i < n → inc b i v = true → s.lf i = false) ∧ s.jn v = none
structure SpPost (n : Nat) (b : Nat → Nat → Int) (C : Int → Prop) (s : SpS) (k e : Int) (s' : SpS) (l : List Th) : Prop where
 walk : Walk e l k
 acc : Acc n b s l s'
 clo : ∀ v, v = k ∨ seen l v → Clo n b s' v
 pr : ∀ v, C v → par n b s' v = false
 len : l.length + muS n s' ≤ muS n s
structure SpMid (n : Nat) (b : Nat → Nat → Int) (C : Int → Prop) (s : SpS) (k e : Int) (i : Nat) (s' : SpS) (l : List Th) (c : Int) : Prop where
 walk : Walk e l c
 acc : Acc n b s l s'
 clo : ∀ v, v ≠ k → seen l v → Clo n b s' v
 at_ : ∀ j, j < i → inc b j k = true → s'.lf j = false
 pr : ∀ v, C v → par n b s' v = (decide (v = k) ^^ decide (v = c))
 len : l.length + muS n s' ≤ muS n s
theorem JnOk.of {n : Nat} {b : Nat → Nat → Int} {C : Int → Prop} {s s' : SpS} {l : List Th} (h : JnOk C s) (a : Acc n b s l s') : JnOk C s' := by
 refine ⟨fun v w e => ?_, fun v w e => h.kn v w (a.sub_jn e).1⟩
 obtain ⟨e1, e2⟩ := a.sub_jn e
 obtain ⟨h1, h2, h3⟩ := h.sy v w e1
 refine ⟨?_, h2, h3⟩
 rw [a.jn]
 rw [if_neg, h1]
 intro u
 obtain ⟨x, hx, q, o⟩ := usedJ_iff.1 u
 have ok := a.ok x hx
 unfold ThOk at ok
 rw [q] at ok
 have : usedJ l v = true := usedJ_iff.2 ⟨x, hx, q, by
   rcases o with o | o
   · rw [o, h1] at ok; have := ok.1; injection this with this; exact .inr this.symm
   · rw [o, h1] at ok; have := ok.2; injection this with this; exact .inl this.symm⟩
 rw [this] at e2; cases e2
theorem inc_iff {b : Nat → Nat → Int} {i : Nat} {v : Int} : inc b i v = true ↔ b i 0 = v ∨ b i 1 = v := by
 simp only [inc, Bool.or_eq_true, decide_eq_true_eq]
theorem inc_ends {b : Nat → Nat → Int} {i : Nat} (hne : b i 0 ≠ b i 1) {k t : Int} (he : (k = b i 0 ∧ t = b i 1) ∨ (k = b i 1 ∧ t = b i 0)) (v : Int) : inc b i v = (decide (v = k) ^^ decide (v = t)) := by
 unfold inc
 rcases he with ⟨rfl, rfl⟩ | ⟨rfl, rfl⟩
 · by_cases h1 : v = b i 0
   · subst h1
     simp [hne, Ne.symm hne]
   · by_cases h2 : v = b i 1
     · subst h2; simp [hne, Ne.symm hne]
     · simp [h1, h2, Ne.symm h1, Ne.symm h2, eq_comm]
 · by_cases h1 : v = b i 0
   · subst h1
     simp [hne, Ne.symm hne]
   · by_cases h2 : v = b i 1
     · subst h2; simp [hne, Ne.symm hne]
     · simp [h1, h2, Ne.symm h1, Ne.symm h2, eq_comm]
theorem par_offB {n : Nat} {b : Nat → Nat → Int} {s : SpS} {i : Nat} (hi : i < n) (h : s.lf i = true) (v : Int) : par n b (offB s i) v = (par n b s v ^^ inc b i v) := by
 unfold par
 rw [xorN_one (p := fun j => (offB s i).lf j && inc b j v) (q := fun j => s.lf j && inc b j v) hi fun j hj ne => by
   show (s.lf j && !decide (j = i) && inc b j v) = _
   rw [decide_eq_false ne]; simp]
 have : ((offB s i).lf i && inc b i v) = false := by
   show (s.lf i && !decide (i = i) && inc b i v) = false
   simp
 rw [this, h]
 show (_ ^^ (false ^^ (true && inc b i v)) ^^ (s.jn v).isSome) = _
 cases xorN n (fun j => s.lf j && inc b j v) <;> cases inc b i v <;> cases (s.jn v).isSome <;> rfl
theorem par_offJ {n : Nat} {b : Nat → Nat → Int} {s : SpS} {x y : Int} (h1 : s.jn x = some y) (h2 : s.jn y = some x) (ne : x ≠ y) (v : Int) : par n b (offJ s x y) v = (par n b s v ^^ (decide (v = x) ^^ decide (v = y))) := by
 unfold par
 show (xorN n (fun i => s.lf i && inc b i v) ^^ (if v = x ∨ v = y then none else s.jn v).isSome) = _
 by_cases c : v = x
 · subst c
   rw [if_pos (.inl rfl), h1, decide_eq_true rfl, decide_eq_false ne]
   cases xorN n (fun i => s.lf i && inc b i v) <;> rfl
 · by_cases d : v = y
   · subst d
     rw [if_pos (.inr rfl), h2, decide_eq_true rfl, decide_eq_false c]
     cases xorN n (fun i => s.lf i && inc b i v) <;> rfl
   · rw [if_neg (fun h => h.elim c d), decide_eq_false c, decide_eq_false d]
     cases xorN n (fun i => s.lf i && inc b i v) <;> cases (s.jn v).isSome <;> rfl
theorem par_clo {n : Nat} {b : Nat → Nat → Int} {s : SpS} {v : Int} (h : Clo n b s v) : par n b s v = false := by
 unfold par
 rw [xorN_false, h.2]
 · rfl
 · intro i hi
   cases c : inc b i v with
   | false => rw [Bool.and_false]
   | true => rw [h.1 i hi c]; rfl
theorem Clo.of {n : Nat} {b : Nat → Nat → Int} {s s' : SpS} {l : List Th} {v : Int} (h : Clo n b s v) (a : Acc n b s l s') : Clo n b s' v := by
 refine ⟨fun i hi c => ?_, ?_⟩
 · rw [a.lf, h.1 i hi c]; rfl
 · rw [a.jn, h.2]; split <;> rfl
theorem seen_append {l m : List Th} {v : Int} : seen (l ++ m) v ↔ seen l v ∨ seen m v := by
 simp only [seen, List.mem_append]
 exact ⟨fun ⟨x, h, o⟩ => h.elim (fun h => .inl ⟨x, h, o⟩) fun h => .inr ⟨x, h, o⟩, fun h => h.elim (fun ⟨x, h, o⟩ => ⟨x, .inl h, o⟩) fun ⟨x, h, o⟩ => ⟨x, .inr h, o⟩⟩
theorem seen_one {x : Th} {v : Int} : seen [x] v ↔ x.f = v ∨ x.t = v := by simp [seen]
theorem SpMid.start {n : Nat} {b : Nat → Nat → Int} {C : Int → Prop} {s : SpS} {k e : Int} (h : SpPre n b C s k e) : SpMid n b C s k e 0 s [] e :=
 ⟨rfl, Acc.nil, fun v _ ⟨x, hx, _⟩ => (by cases hx), fun j hj => (by omega), h.pr, by show 0 + _ ≤ _; omega⟩
theorem SpMid.skip {n : Nat} {b : Nat → Nat → Int} {C : Int → Prop} {s s' : SpS} {k e c : Int} {i : Nat} {l : List Th} (h : SpMid n b C s k e i s' l c) (hs : s'.lf i = true → inc b i k = false) : SpMid n b C s k e (i + 1) s' l c :=
 ⟨h.walk, h.acc, h.clo, fun j hj hk => by
   by_cases d : j = i
   · subst d
     cases q : s'.lf j with
     | false => rfl
     | true => rw [hs q] at hk; cases hk
   · exact h.at_ j (by omega) hk, h.pr, h.len⟩
theorem SpMid.into {n : Nat} {b : Nat → Nat → Int} {C : Int → Prop} (G : GrOk n b C) {s s' : SpS} {k e c : Int} {i : Nat} {l : List Th} (P : SpPre n b C s k e) (h : SpMid n b C s k e i s' l c) (hi : i < n) (hl : s'.lf i = true) {t : Int} (he : (k = b i 0 ∧ t = b i 1) ∨ (k = b i 1 ∧ t = b i 0)) : SpPre n b C (offB s' i) t c := by
 have A := Acc.bar hi hl he
 refine ⟨(P.jo.of h.acc).of A, ?_, fun v hv => ?_⟩
 · rcases he with ⟨rfl, rfl⟩ | ⟨rfl, rfl⟩
   · exact (G.cl i hi).1 P.ck
   · exact (G.cl i hi).2 P.ck
 · rw [par_offB hi hl, h.pr v hv, inc_ends (G.ne i hi) he]
   cases decide (v = k) <;> cases decide (v = c) <;> cases decide (v = t) <;> rfl
theorem SpMid.back {n : Nat} {b : Nat → Nat → Int} {C : Int → Prop} (G : GrOk n b C) {s s' s2 : SpS} {k e c : Int} {i : Nat} {l m : List Th} (P : SpPre n b C s k e) (h : SpMid n b C s k e i s' l c) (hi : i < n) (hl : s'.lf i = true) {t : Int} (he : (k = b i 0 ∧ t = b i 1) ∨ (k = b i 1 ∧ t = b i 0)) (hp : SpPost n b C (offB s' i) t c s2 m) : SpMid n b C s k e (i + 1) s2 (l ++ (m ++ [⟨some i, t, k⟩])) k := by
 have he' : (t = b i 0 ∧ k = b i 1) ∨ (t = b i 1 ∧ k = b i 0) := he.symm.imp And.symm And.symm
 have A := Acc.bar (b := b) hi hl he'
 have A2 : Acc n b s' (m ++ [⟨some i, t, k⟩]) s2 := (A.append hp.acc).perm List.perm_append_comm
 have A3 := h.acc.append A2
 refine ⟨h.walk.append (hp.walk.append ⟨rfl, rfl⟩), A3, fun v hv hs => ?_, fun j hj hk => ?_, fun v hv => ?_, ?_⟩
 · rcases seen_append.1 hs with hs | hs
   · exact (h.clo v hv hs).of A2
   · rcases seen_append.1 hs with hs | hs
     · exact hp.clo v (.inr hs)
     · rcases seen_one.1 hs with e | e
       · exact hp.clo v (.inl e.symm)
       · exact absurd e.symm hv
 · by_cases d : j = i
   · subst d
     rw [A2.lf, usedB_iff.2 ⟨_, List.mem_append.2 (.inr (List.mem_singleton.2 rfl)), rfl⟩, Bool.not_true, Bool.and_false]
   · rw [A2.lf, h.at_ j (by omega) hk]; rfl
 · rw [hp.pr v hv]; cases decide (v = k) <;> rfl
 · have := muS_offB hi hl
   have := hp.len
   have := h.len
   simp only [List.length_append, List.length_singleton]; omega
theorem SpMid.fin {n : Nat} {b : Nat → Nat → Int} {C : Int → Prop} {s s' : SpS} {k e c : Int} {l : List Th} (P : SpPre n b C s k e) (h : SpMid n b C s k e n s' l c) (hj : s'.jn k = none) : SpPost n b C s k e s' l := by
 have hk : Clo n b s' k := ⟨fun i hi q => h.at_ i hi q, hj⟩
 have e0 := par_clo hk
 rw [h.pr k P.ck, decide_eq_true rfl] at e0
 have ec : k = c := by
   apply Classical.byContradiction
   intro ne
   rw [decide_eq_false ne] at e0; cases e0
 subst ec
 refine ⟨h.walk, h.acc, fun v hv => ?_, fun v hv => by rw [h.pr v hv]; cases decide (v = k) <;> rfl, h.len⟩
 by_cases d : v = k
 · subst d; exact hk
 · rcases hv with hv | hv
   · exact absurd hv d
   · exact h.clo v d hv
theorem SpMid.jinto {n : Nat} {b : Nat → Nat → Int} {C : Int → Prop} {s s' : SpS} {k e c : Int} {l : List Th} (P : SpPre n b C s k e) (h : SpMid n b C s k e n s' l c) {t : Int} (hj : s'.jn k = some t) : SpPre n b C (offJ s' k t) t c := by
 have J := P.jo.of h.acc
 obtain ⟨h1, h2, h3⟩ := J.sy k t hj
 refine ⟨J.of (Acc.join (n := n) (b := b) hj h1), (J.sy t k h1).2.2, fun v hv => ?_⟩
 rw [par_offJ hj h1 h2, h.pr v hv]
 cases decide (v = k) <;> cases decide (v = c) <;> cases decide (v = t) <;> rfl
theorem SpMid.jback {n : Nat} {b : Nat → Nat → Int} {C : Int → Prop} {s s' s2 : SpS} {k e c : Int} {l m : List Th} (P : SpPre n b C s k e) (h : SpMid n b C s k e n s' l c) {t : Int} (hj : s'.jn k = some t) (hp : SpPost n b C (offJ s' k t) t c s2 m) : SpPre n b C s2 k k := by
 have J := P.jo.of h.acc
 obtain ⟨h1, h2, h3⟩ := J.sy k t hj
 exact ⟨(J.of (Acc.join (n := n) (b := b) hj h1)).of hp.acc, P.ck, fun v hv => by rw [hp.pr v hv]; cases decide (v = k) <;> rfl⟩
theorem SpMid.jfin {n : Nat} {b : Nat → Nat → Int} {C : Int → Prop} {s s' s2 s3 : SpS} {k e c : Int} {l m r : List Th} (P : SpPre n b C s k e) (h : SpMid n b C s k e n s' l c) {t : Int} (hj : s'.jn k = some t) (hp : SpPost n b C (offJ s' k t) t c s2 m) (hq : SpPost n b C s2 k k s3 r) : SpPost n b C s k e s3 (l ++ (m ++ [⟨none, t, k⟩]) ++ r) := by
 have J := P.jo.of h.acc
 obtain ⟨h1, h2, h3⟩ := J.sy k t hj
 have A := Acc.join (n := n) (b := b) h1 hj
 have eo : offJ s' t k = offJ s' k t := by
   unfold offJ
   congr 1
   funext v
   by_cases c : v = t ∨ v = k
   · rw [if_pos c, if_pos c.symm]
   · rw [if_neg c, if_neg fun d => c d.symm]
 rw [eo] at A
 have A2 : Acc n b s' (m ++ [⟨none, t, k⟩]) s2 := (A.append hp.acc).perm List.perm_append_comm
 have A3 := (h.acc.append A2).append hq.acc
 refine ⟨(h.walk.append (hp.walk.append (show Walk t [⟨none, t, k⟩] k from ⟨rfl, rfl⟩))).append hq.walk, A3, fun v hv => ?_, hq.pr, by
   have := muS_offJ (n := n) hj (J.kn k t hj).1 (J.kn k t hj).2
   have := hp.len
   have := h.len
   have := hq.len
   simp only [List.length_append, List.length_singleton]; omega⟩
 by_cases d : v = k
 · exact hq.clo v (.inl d)
 · rcases hv with hv | hv
   · exact absurd hv d
   · rcases seen_append.1 hv with hv | hv
     · refine Clo.of ?_ hq.acc
       rcases seen_append.1 hv with hv | hv
       · exact (h.clo v d hv).of A2
       · rcases seen_append.1 hv with hv | hv
         · exact hp.clo v (.inr hv)
         · rcases seen_one.1 hv with e | e
           · exact hp.clo v (.inl e.symm)
           · exact absurd e.symm d
     · exact hq.clo v (.inr hv)
end Nm
namespace Nm
open Go Go.Sx
def stp (b : Nat → Nat → Int) (x y : Int) (j : Nat) : Nat := if barEq b (imin x y) (imax x y) j then 1 else 0
def cntP (b : Nat → Nat → Int) (j : Nat) : List Int → Nat
 | x :: y :: l => stp b x y j + cntP b j (y :: l)
 | _ => 0
def cntL (b : Nat → Nat → Int) (j : Nat) : List (List Int) → Nat
 | [] => 0
 | p :: l => cntP b j p + cntL b j l
def hasP (n : Nat) (b : Nat → Nat → Int) : List Int → Prop
 | x :: y :: l => (∃ j, j < n ∧ barEq b (imin x y) (imax x y) j = true) ∧ hasP n b (y :: l)
 | _ => True
def PcOk (n : Nat) (b : Nat → Nat → Int) (p : List Int) : Prop := 2 ≤ p.length ∧ hasP n b p
theorem cntL_append {b : Nat → Nat → Int} {j : Nat} {m : List (List Int)} : ∀ {l : List (List Int)}, cntL b j (l ++ m) = cntL b j l + cntL b j m
 | [] => by show cntL b j m = 0 + cntL b j m; omega
 | p :: l => by show cntP b j p + cntL b j (l ++ m) = cntP b j p + cntL b j l + cntL b j m; rw [cntL_append]; omega
theorem cntP_snoc {b : Nat → Nat → Int} {j : Nat} {x y : Int} : ∀ {l : List Int}, cntP b j (l ++ [x] ++ [y]) = cntP b j (l ++ [x]) + stp b x y j
 | [] => by show stp b x y j + cntP b j [y] = cntP b j [x] + _; show _ + 0 = 0 + _; omega
 | [z] => by show stp b z x j + (stp b x y j + 0) = stp b z x j + 0 + stp b x y j; omega
 | z :: z' :: l => by
   have := cntP_snoc (b := b) (j := j) (x := x) (y := y) (l := z' :: l)
   show stp b z z' j + cntP b j (z' :: l ++ [x] ++ [y]) = stp b z z' j + cntP b j (z' :: l ++ [x]) + _
   rw [this]; omega
theorem hasP_snoc {n : Nat} {b : Nat → Nat → Int} {x y : Int} : ∀ {l : List Int}, hasP n b (l ++ [x] ++ [y]) ↔ hasP n b (l ++ [x]) ∧ ∃ j, j < n ∧ barEq b (imin x y) (imax x y) j = true
 | [] => by show ((∃ j, _) ∧ True) ↔ True ∧ _; simp
 | [z] => by show ((∃ j, _) ∧ (∃ j, _) ∧ True) ↔ ((∃ j, _) ∧ True) ∧ _; simp
 | z :: z' :: l => by
   have := hasP_snoc (n := n) (b := b) (x := x) (y := y) (l := z' :: l)
   show ((∃ j, _) ∧ hasP n b (z' :: l ++ [x] ++ [y])) ↔ ((∃ j, _) ∧ hasP n b (z' :: l ++ [x])) ∧ _
   rw [this, and_assoc]
structure CtS where
 o : List (List Int)
 p : List Int
def ctDone (s : CtS) : List (List Int) := if 1 < s.p.length then s.o ++ [s.p] else s.o
def ctStep (s : CtS) (x : Th) : CtS := match x.q with
 | none => ⟨ctDone s, []⟩
 | some _ => ⟨s.o, (if s.p = [] then [x.f] else s.p) ++ [x.t]⟩
def ctFrom : List Th → Nat → Nat → Nat
 | [], _, r => r
 | x :: l, i, r => ctFrom l (i + 1) (if x.q.isNone then i + 1 else r)
def rotL (l : List Th) : List Th := l.drop (ctFrom l 0 0) ++ l.take (ctFrom l 0 0)
def cutF (l : List Th) : List (List Int) := ctDone ((rotL l).foldl ctStep ⟨[], []⟩)
theorem ctFrom_ok : ∀ {l : List Th} {i r : Nat}, (ctFrom l i r = r ∧ ∀ x ∈ l, x.q ≠ none) ∨ (∃ m x r', l = m ++ x :: r' ∧ x.q = none ∧ (∀ y ∈ r', y.q ≠ none) ∧ ctFrom l i r = i + m.length + 1)
 | [], i, r => .inl ⟨rfl, fun x h => (by cases h)⟩
 | x :: l, i, r => by
   rcases ctFrom_ok (l := l) (i := i + 1) (r := if x.q.isNone then i + 1 else r) with ⟨h1, h2⟩ | ⟨m, y, r', h1, h2, h3, h4⟩
   · cases e : x.q with
     | none =>
       refine .inr ⟨[], x, l, rfl, e, h2, ?_⟩
       show ctFrom l (i + 1) (if x.q.isNone then i + 1 else r) = _
       rw [h1, e]; rfl
     | some k =>
       refine .inl ⟨?_, fun y hy => ?_⟩
       · show ctFrom l (i + 1) (if x.q.isNone then i + 1 else r) = _
         rw [h1, e]; rfl
       · rcases List.mem_cons.1 hy with rfl | hy
         · rw [e]; exact fun h => (by cases h)
         · exact h2 y hy
   · refine .inr ⟨x :: m, y, r', by rw [h1]; rfl, h2, h3, ?_⟩
     show ctFrom l (i + 1) (if x.q.isNone then i + 1 else r) = _
     rw [h4]; simp only [List.length_cons]; omega
theorem ctFrom_le {l : List Th} : ctFrom l 0 0 ≤ l.length := by
 rcases ctFrom_ok (l := l) (i := 0) (r := 0) with ⟨h, _⟩ | ⟨m, x, r', h1, _, _, h4⟩
 · omega
 · rw [h4, h1]; simp only [List.length_append, List.length_cons]; omega
theorem rotL_len {l : List Th} : (rotL l).length = l.length := by
 have := ctFrom_le (l := l)
 unfold rotL
 rw [List.length_append, List.length_drop, List.length_take]; omega
theorem rotL_perm {l : List Th} : (rotL l).Perm l := by
 have := List.perm_append_comm (l₁ := l.drop (ctFrom l 0 0)) (l₂ := l.take (ctFrom l 0 0))
 rw [List.take_append_drop] at this
 exact this
theorem rotL_get {l : List Th} {i : Nat} (hi : i < l.length) : (rotL l)[i]? = l[(ctFrom l 0 0 + i) % l.length]? := by
 have h := ctFrom_le (l := l)
 unfold rotL
 rw [List.getElem?_append, List.length_drop]
 split
 · rw [List.getElem?_drop, Nat.mod_eq_of_lt (by omega)]
 · rw [List.getElem?_take, if_pos (by omega), show ctFrom l 0 0 + i = (i - (l.length - ctFrom l 0 0)) + l.length by omega, Nat.add_mod_right, Nat.mod_eq_of_lt (by omega)]
theorem rotL_walk {l : List Th} {k : Int} (h : Walk k l k) : ∃ c, Walk c (rotL l) c := by
 rw [← List.take_append_drop (ctFrom l 0 0) l, Walk.append_iff] at h
 obtain ⟨c, h1, h2⟩ := h
 exact ⟨c, h2.append h1⟩
def virN (l : List Th) : Nat := l.countP fun x => x.q.isNone
theorem no_adj {n : Nat} {b : Nat → Nat → Int} {s s' : SpS} {l m r : List Th} {x y : Th} {e k : Int} (a : Acc n b s l s') (h : l = m ++ x :: y :: r) (w : Walk e l k) : x.q ≠ none ∨ y.q ≠ none := by
 apply Classical.byContradiction
 intro c
 simp only [ne_eq, not_or, Decidable.not_not] at c
 have nod := a.nod
 rw [h, List.pairwise_append] at nod
 have := (List.pairwise_cons.1 nod.2.1).1 y (List.mem_cons.2 (.inl rfl))
 rw [h, Walk.append_iff] at w
 obtain ⟨c', _, w1, w2, _⟩ := w
 exact (this.2 c.1 c.2).2.2.1 w2.symm
structure CtOk (n : Nat) (b : Nat → Nat → Int) (l : List Th) (s : CtS) (c : Int) : Prop where
 cnt : ∀ j, cntL b j s.o + cntP b j s.p = (l.map fun x => if x.q.isNone then 0 else stp b x.f x.t j).sum
 ok : ∀ p ∈ s.o, PcOk n b p
 cur : s.p ≠ [] → (∃ m, s.p = m ++ [c]) ∧ 2 ≤ s.p.length ∧ hasP n b s.p
 num : s.o.length + (if s.p = [] then 0 else 1) = virN l + (if s.p = [] then 0 else 1)
 emp : s.p = [] ↔ l = [] ∨ ∃ m x, l = m ++ [x] ∧ x.q = none
theorem ct_step {n : Nat} {b : Nat → Nat → Int} {l : List Th} {s : CtS} {c : Int} {x : Th} (h : CtOk n b l s c) (hf : x.f = c) (hb : ∀ i, x.q = some i → ∃ j, j < n ∧ barEq b (imin x.f x.t) (imax x.f x.t) j = true) (hv : x.q = none → s.p ≠ []) : CtOk n b (l ++ [x]) (ctStep s x) x.t := by
 cases e : x.q with
 | none =>
   have hp := hv e
   obtain ⟨h1, h2, h3⟩ := h.cur hp
   have es : ctStep s x = ⟨s.o ++ [s.p], []⟩ := by
     unfold ctStep ctDone; rw [e, if_pos (by omega)]
   rw [es]
   refine ⟨fun j => ?_, fun p hm => ?_, fun h => absurd rfl h, ?_, ⟨fun _ => .inr ⟨l, x, rfl, e⟩, fun _ => rfl⟩⟩
   · have := h.cnt j
     simp only [List.map_append, List.sum_append, List.map_cons, List.map_nil, List.sum_cons, List.sum_nil, cntL_append, cntL]
     rw [e]
     show cntL b j s.o + (cntP b j s.p + 0) + 0 = _ + (0 + 0)
     omega
   · rcases List.mem_append.1 hm with hm | hm
     · exact h.ok p hm
     · rw [List.mem_singleton.1 hm]; exact ⟨h2, h3⟩
   · have := h.num
     rw [if_neg hp] at this
     rw [if_pos rfl]
     unfold virN at *
     rw [List.length_append, List.countP_append, List.countP_cons, e]
     simp only [List.length_singleton, List.countP_nil, Option.isNone_none, if_true]
     omega
 | some i =>
   have es : ctStep s x = ⟨s.o, (if s.p = [] then [x.f] else s.p) ++ [x.t]⟩ := by unfold ctStep; rw [e]
   rw [es]
   have ne : (if s.p = [] then [x.f] else s.p) ++ [x.t] ≠ [] := by simp
   have hcur : ∃ m, (if s.p = [] then [x.f] else s.p) = m ++ [x.f] := by
     by_cases q : s.p = []
     · rw [if_pos q]; exact ⟨[], rfl⟩
     · rw [if_neg q, hf]; exact (h.cur q).1
   obtain ⟨m, hm⟩ := hcur
   have hc0 : ∀ j, cntP b j (m ++ [x.f]) = cntP b j s.p := fun j => by
     rw [← hm]
     by_cases q : s.p = []
     · rw [if_pos q, q]; rfl
     · rw [if_neg q]
   have hh0 : hasP n b (m ++ [x.f]) := by
     rw [← hm]
     by_cases q : s.p = []
     · rw [if_pos q]; exact trivial
     · rw [if_neg q]; exact (h.cur q).2.2
   refine ⟨fun j => ?_, h.ok, fun _ => ?_, ?_, ⟨fun h => absurd h ne, fun o => ?_⟩⟩
   · have := h.cnt j
     simp only [List.map_append, List.sum_append, List.map_cons, List.map_nil, List.sum_cons, List.sum_nil]
     rw [e, hm, cntP_snoc, hc0]
     show _ = _ + (stp b x.f x.t j + 0)
     omega
   · rw [hm]
     refine ⟨⟨m ++ [x.f], rfl⟩, ?_, hasP_snoc.2 ⟨hh0, hb i e⟩⟩
     simp only [List.length_append, List.length_singleton]; omega
   · have := h.num
     rw [if_neg ne]
     unfold virN at *
     rw [List.countP_append, List.countP_cons, e]
     simp only [List.countP_nil, Option.isNone_some, Bool.false_eq_true, if_false]
     omega
   · rcases o with o | ⟨m', x', o, q⟩
     · simp at o
     · have := List.append_inj_right' o rfl
       simp only [List.cons.injEq, and_true] at this
       rw [← this, e] at q; cases q
theorem ct_fold {n : Nat} {b : Nat → Nat → Int} : ∀ {r l : List Th} {s : CtS} {c k : Int}, CtOk n b l s c → Walk c r k → (∀ x ∈ r, ∀ i, x.q = some i → ∃ j, j < n ∧ barEq b (imin x.f x.t) (imax x.f x.t) j = true) → (∀ m x r', l ++ r = m ++ x :: r' → x.q = none → ∃ m' y, m = m' ++ [y] ∧ y.q ≠ none) → CtOk n b (l ++ r) (r.foldl ctStep s) k
 | [], l, s, c, k, h, w, _, _ => by have w : c = k := w; subst w; rw [List.append_nil]; exact h
 | x :: r, l, s, c, k, h, w, hb, hv => by
   have := ct_fold (r := r) (l := l ++ [x]) (ct_step h w.1 (hb x (List.mem_cons.2 (.inl rfl))) fun e => by
     obtain ⟨m', y, h1, h2⟩ := hv l x r rfl e
     intro q
     rcases h.emp.1 q with o | ⟨m2, y2, o, q2⟩
     · rw [o] at h1; simp at h1
     · rw [h1] at o
       have := List.append_inj_right' o rfl
       simp only [List.cons.injEq, and_true] at this
       rw [this] at h2; exact h2 q2) w.2 (fun y hy => hb y (List.mem_cons.2 (.inr hy))) (by rw [List.append_assoc]; exact hv)
   rw [List.append_assoc] at this
   exact this
theorem imin_max {x y : Int} (h : x < y) : imin x y = x ∧ imax x y = y ∧ imin y x = x ∧ imax y x = y := by
 unfold imin imax
 rw [if_neg (by omega), if_pos h, if_pos h, if_neg (by omega)]
 exact ⟨rfl, rfl, rfl, rfl⟩
structure Cut (n : Nat) (b : Nat → Nat → Int) (l : List Th) (o : List (List Int)) : Prop where
 ok : ∀ p ∈ o, PcOk n b p
 cnt : ∀ j, j < n → cntL b j o = if usedB l j then 1 else 0
 num : o.length = max 1 (virN l)
theorem stp_bar {n : Nat} {b : Nat → Nat → Int} (hlt : ∀ i, i < n → b i 0 < b i 1) (dif : ∀ i, i < n → ∀ j, j < n → b i 0 = b j 0 → b i 1 = b j 1 → i = j) {i : Nat} (hi : i < n) {f t : Int} (he : (f = b i 0 ∧ t = b i 1) ∨ (f = b i 1 ∧ t = b i 0)) : barEq b (imin f t) (imax f t) i = true ∧ ∀ j, j < n → stp b f t j = if j = i then 1 else 0 := by
 obtain ⟨m1, m2, m3, m4⟩ := imin_max (hlt i hi)
 have e : imin f t = b i 0 ∧ imax f t = b i 1 := by
   rcases he with ⟨rfl, rfl⟩ | ⟨rfl, rfl⟩
   · exact ⟨m1, m2⟩
   · exact ⟨m3, m4⟩
 refine ⟨barEq_iff.2 ⟨e.1.symm, e.2.symm⟩, fun j hj => ?_⟩
 unfold stp
 by_cases c : j = i
 · subst c; rw [if_pos rfl, if_pos (barEq_iff.2 ⟨e.1.symm, e.2.symm⟩)]
 · rw [if_neg c, if_neg]
   intro h
   obtain ⟨h0, h1⟩ := barEq_iff.1 h
   exact c (dif j hj i hi (h0.trans e.1) (h1.trans e.2))
theorem sum_used {n : Nat} {b : Nat → Nat → Int} {j : Nat} {g : Th → Nat} : ∀ {l : List Th}, l.Pairwise ThNe → (∀ x ∈ l, ∀ i, x.q = some i → g x = if j = i then 1 else 0) → (l.map fun x => if x.q.isNone then 0 else g x).sum = if usedB l j then 1 else 0
 | [], _, _ => rfl
 | x :: l, h, hg => by
   obtain ⟨h1, h2⟩ := List.pairwise_cons.1 h
   have ih := sum_used (n := n) (b := b) (j := j) (g := g) (l := l) h2 fun y hy => hg y (List.mem_cons.2 (.inr hy))
   rw [List.map_cons, List.sum_cons, ih]
   cases e : x.q with
   | none =>
     have : usedB (x :: l) j = usedB l j := by
       unfold usedB; rw [List.any_cons, e]; rfl
     rw [this]; simp
   | some i =>
     rw [hg x (List.mem_cons.2 (.inl rfl)) i e]
     by_cases c : j = i
     · subst c
       have e1 : usedB (x :: l) j = true := usedB_iff.2 ⟨x, List.mem_cons.2 (.inl rfl), e⟩
       have e2 : usedB l j = false := by
         cases q : usedB l j with
         | false => rfl
         | true =>
           obtain ⟨y, hy, ey⟩ := usedB_iff.1 q
           exact absurd rfl ((h1 y hy).1 j j e ey)
       rw [e1, e2]; simp
     · have : usedB (x :: l) j = usedB l j := by
         unfold usedB; rw [List.any_cons, e]
         have : (some i == some j) = false := by simp [Ne.symm c]
         rw [this]; rfl
       rw [this, if_neg c]; simp
theorem cut_ok {n : Nat} {b : Nat → Nat → Int} (hlt : ∀ i, i < n → b i 0 < b i 1) (dif : ∀ i, i < n → ∀ j, j < n → b i 0 = b j 0 → b i 1 = b j 1 → i = j) {s s' : SpS} {l : List Th} {k : Int} (hj : ∀ v w, s.jn v = some w → v ≠ w) (a : Acc n b s l s') (w : Walk k l k) (hne : l ≠ []) : Cut n b l (cutF l) := by
 have aR : Acc n b s (rotL l) s' := a.perm rotL_perm.symm
 obtain ⟨c, wR⟩ := rotL_walk w
 have nR : rotL l ≠ [] := fun e => by
   have := rotL_len (l := l)
   rw [e] at this
   exact hne (List.length_eq_zero_iff.1 this.symm)
 have bars : ∀ x ∈ rotL l, ∀ i, x.q = some i → barEq b (imin x.f x.t) (imax x.f x.t) i = true ∧ i < n ∧ ∀ j, j < n → stp b x.f x.t j = if j = i then 1 else 0 := fun x hx i e => by
   have ok := aR.ok x hx
   unfold ThOk at ok
   rw [e] at ok
   have := stp_bar hlt dif ok.1 ok.2.2
   exact ⟨this.1, ok.1, this.2⟩
 have last : (∀ x ∈ rotL l, x.q ≠ none) ∨ ∃ m x, rotL l = m ++ [x] ∧ x.q = none := by
   rcases ctFrom_ok (l := l) (i := 0) (r := 0) with ⟨h1, h2⟩ | ⟨m, x, r', h1, h2, h3, h4⟩
   · exact .inl fun x hx => h2 x (rotL_perm.mem_iff.1 hx)
   · refine .inr ⟨l.drop (ctFrom l 0 0) ++ m, x, ?_, h2⟩
     unfold rotL
     have : l.take (ctFrom l 0 0) = m ++ [x] := by
       rw [h4, h1, show 0 + m.length + 1 = (m ++ [x]).length by simp, show m ++ x :: r' = (m ++ [x]) ++ r' by simp, List.take_left]
     rw [this, List.append_assoc]
 have key : ∀ m x r', rotL l = m ++ x :: r' → x.q = none → ∃ m' y, m = m' ++ [y] ∧ y.q ≠ none := by
   intro m x r' h q
   rcases List.eq_nil_or_concat m with rfl | ⟨m', y, rfl⟩
   · exfalso
     rw [List.nil_append] at h
     rcases last with o | ⟨m2, x2, o, q2⟩
     · exact o x (by rw [h]; exact List.mem_cons.2 (.inl rfl)) q
     · rw [h] at wR
       have okx := aR.ok x (by rw [h]; exact List.mem_cons.2 (.inl rfl))
       unfold ThOk at okx
       rw [q] at okx
       rcases List.eq_nil_or_concat r' with e0 | ⟨r2, z, e0⟩ <;> (first | subst e0 | skip)
       · have w2 : x.t = c := wR.2
         exact hj x.f x.t okx.1 (wR.1.trans w2.symm)
       · rw [List.concat_eq_append] at h wR
         rw [h, show x :: (r2 ++ [z]) = (x :: r2) ++ [z] by simp] at o
         have ez := List.append_inj_right' o rfl
         simp only [List.cons.injEq, and_true] at ez
         have qz : z.q = none := by rw [ez]; exact q2
         have nod := aR.nod
         rw [h] at nod
         have := ((List.pairwise_cons.1 nod).1 z (List.mem_append.2 (.inr (List.mem_singleton.2 rfl)))).2 q qz
         have w3 := Walk.append_iff.1 wR.2
         obtain ⟨d, _, w4⟩ := w3
         have w4 : z.f = d ∧ z.t = c := w4
         exact this.2.1 (wR.1.trans w4.2.symm)
   · refine ⟨m', y, by rw [List.concat_eq_append], ?_⟩
     rw [List.concat_eq_append, List.append_assoc] at h
     rcases no_adj aR h wR with o | o
     · exact o
     · exact absurd q o
 have F := ct_fold (n := n) (b := b) (r := rotL l) (l := []) (s := ⟨[], []⟩) (c := c) (k := c) ⟨fun j => rfl, fun p h => (by cases h), fun h => absurd rfl h, rfl, ⟨fun _ => .inl rfl, fun _ => rfl⟩⟩ wR (fun x hx i e => ⟨i, (bars x hx i e).2.1, (bars x hx i e).1⟩) (by rw [List.nil_append]; exact key)
 rw [List.nil_append] at F
 have hv : virN (rotL l) = virN l := rotL_perm.countP_eq _
 have hu : ∀ j, usedB (rotL l) j = usedB l j := fun j => by
   rw [Bool.eq_iff_iff, usedB_iff, usedB_iff]
   exact ⟨fun ⟨x, hx, e⟩ => ⟨x, rotL_perm.mem_iff.1 hx, e⟩, fun ⟨x, hx, e⟩ => ⟨x, rotL_perm.mem_iff.2 hx, e⟩⟩
 have sums : ∀ j, j < n → ((rotL l).map fun x => if x.q.isNone then 0 else stp b x.f x.t j).sum = if usedB l j then 1 else 0 := fun j hjn => by
   rw [sum_used (n := n) (b := b) (j := j) (g := fun x => stp b x.f x.t j) aR.nod (fun x hx i e => (bars x hx i e).2.2 j hjn), hu]
 unfold cutF
 by_cases e : ((rotL l).foldl ctStep ⟨[], []⟩).p = []
 · have ed : ctDone ((rotL l).foldl ctStep ⟨[], []⟩) = ((rotL l).foldl ctStep ⟨[], []⟩).o := by unfold ctDone; rw [e]; rfl
   rw [ed]
   refine ⟨F.ok, fun j hjn => ?_, ?_⟩
   · have := F.cnt j
     rw [sums j hjn, e] at this
     exact this
   · have := F.num
     rw [e, hv] at this
     simp only [if_true] at this
     have : 1 ≤ virN l := by
       rw [← hv]
       rcases F.emp.1 e with o | ⟨m, x, o, q⟩
       · exact absurd o nR
       · rw [o]
         unfold virN
         rw [List.countP_append, List.countP_cons, q]
         simp
     omega
 · obtain ⟨h1, h2, h3⟩ := F.cur e
   have ed : ctDone ((rotL l).foldl ctStep ⟨[], []⟩) = ((rotL l).foldl ctStep ⟨[], []⟩).o ++ [((rotL l).foldl ctStep ⟨[], []⟩).p] := by unfold ctDone; rw [if_pos (by omega)]
   rw [ed]
   refine ⟨fun p hp => ?_, fun j hjn => ?_, ?_⟩
   · rcases List.mem_append.1 hp with hp | hp
     · exact F.ok p hp
     · rw [List.mem_singleton.1 hp]; exact ⟨h2, h3⟩
   · have := F.cnt j
     rw [sums j hjn] at this
     rw [cntL_append]
     show _ + (cntP b j _ + 0) = _
     omega
   · have := F.num
     rw [if_neg e, hv] at this
     have h0 : virN l = 0 := by
       rw [← hv]
       rcases last with o | ⟨m, x, o, q⟩
       · unfold virN
         rw [List.countP_eq_zero]
         intro x hx
         have := o x hx
         cases c : x.q with
         | none => exact absurd c this
         | some i => simp
       · exact absurd (F.emp.2 (.inr ⟨m, x, o, q⟩)) e
     rw [List.length_append, List.length_singleton]; omega
end Nm
namespace Nm
open Go Go.Sx
def othr (b : Nat → Nat → Int) (i : Nat) (v : Int) : Int := b i 0 + b i 1 - v
def grpB (b : Nat → Nat → Int) (v : Int) : Nat → List Int → List Int
 | 0, K => K
 | j + 1, K => if inc b j v = true ∧ othr b j v ∉ grpB b v j K then grpB b v j K ++ [othr b j v] else grpB b v j K
def grpK (n : Nat) (b : Nat → Nat → Int) (s : Int) : Nat → List Int
 | 0 => [s]
 | i + 1 => if i < (grpK n b s i).length then grpB b ((grpK n b s i).getD i 0) n (grpK n b s i) else grpK n b s i
def grp (n : Nat) (b : Nat → Nat → Int) (s : Int) : List Int := grpK n b s (n + 36 - n)
theorem grp_eq {n : Nat} {b : Nat → Nat → Int} {s : Int} : grp n b s = grpK n b s 36 := by unfold grp; rw [Nat.add_sub_cancel_left]
def oddB (n : Nat) (b : Nat → Nat → Int) (v : Int) : Bool := xorN n fun i => inc b i v
def Cls (n : Nat) (b : Nat → Nat → Int) (P : Int → Prop) : Prop := ∀ i, i < n → (P (b i 0) ↔ P (b i 1))
theorem othr_of {b : Nat → Nat → Int} {i : Nat} {v : Int} (h : inc b i v = true) : (v = b i 0 ∧ othr b i v = b i 1) ∨ (v = b i 1 ∧ othr b i v = b i 0) := by
 unfold othr
 rcases inc_iff.1 h with h | h
 · exact .inl ⟨h.symm, by omega⟩
 · exact .inr ⟨h.symm, by omega⟩
theorem Cls.othr {n : Nat} {b : Nat → Nat → Int} {P : Int → Prop} (h : Cls n b P) {i : Nat} (hi : i < n) {v : Int} (hv : inc b i v = true) : P v ↔ P (othr b i v) := by
 rcases othr_of hv with ⟨e1, e2⟩ | ⟨e1, e2⟩
 · rw [e2, e1]; exact h i hi
 · rw [e2, e1]; exact (h i hi).symm
theorem grpB_pre {b : Nat → Nat → Int} {v : Int} {K : List Int} : ∀ {j : Nat}, ∃ m, grpB b v j K = K ++ m
 | 0 => ⟨[], (List.append_nil K).symm⟩
 | j + 1 => by
   obtain ⟨m, h⟩ := grpB_pre (b := b) (v := v) (K := K) (j := j)
   rw [grpB]
   split
   · exact ⟨m ++ [othr b j v], by rw [h, List.append_assoc]⟩
   · exact ⟨m, h⟩
theorem grpB_nod {b : Nat → Nat → Int} {v : Int} {K : List Int} (h : K.Nodup) : ∀ {j : Nat}, (grpB b v j K).Nodup
 | 0 => h
 | j + 1 => by
   have ih := grpB_nod (b := b) (v := v) h (j := j)
   rw [grpB]
   split
   · rename_i c
     rw [List.nodup_append]
     exact ⟨ih, by simp, fun x hx y hy => by rw [List.mem_singleton.1 hy]; rintro rfl; exact c.2 hx⟩
   · exact ih
theorem grpB_mem {b : Nat → Nat → Int} {v : Int} {K : List Int} : ∀ {j : Nat} {x : Int}, x ∈ grpB b v j K → x ∈ K ∨ ∃ i, i < j ∧ inc b i v = true ∧ x = othr b i v
 | 0, x, h => .inl h
 | j + 1, x, h => by
   have lift : x ∈ grpB b v j K → x ∈ K ∨ ∃ i, i < j + 1 ∧ inc b i v = true ∧ x = othr b i v := fun h => (grpB_mem h).imp id fun ⟨i, h1, h2⟩ => ⟨i, by omega, h2⟩
   rw [grpB] at h
   split at h
   · rename_i c
     rcases List.mem_append.1 h with h | h
     · exact lift h
     · exact .inr ⟨j, by omega, c.1, List.mem_singleton.1 h⟩
   · exact lift h
theorem grpB_has {b : Nat → Nat → Int} {v : Int} {K : List Int} : ∀ {j : Nat} {i : Nat}, i < j → inc b i v = true → othr b i v ∈ grpB b v j K
 | 0, i, h, _ => by omega
 | j + 1, i, h, hv => by
   rw [grpB]
   by_cases c : i = j
   · subst c
     split
     · exact List.mem_append.2 (.inr (List.mem_singleton.2 rfl))
     · rename_i d
       simp only [not_and, Decidable.not_not] at d
       exact d hv
   · have := grpB_has (b := b) (v := v) (K := K) (j := j) (i := i) (by omega) hv
     split
     · exact List.mem_append.2 (.inl this)
     · exact this
section
variable {n : Nat} {b : Nat → Nat → Int} {s : Int}
theorem grpK_pre : ∀ {i : Nat}, ∃ m, grpK n b s (i + 1) = grpK n b s i ++ m := by
 intro i
 rw [grpK]
 split
 · exact grpB_pre
 · exact ⟨[], (List.append_nil _).symm⟩
theorem grpK_pres {i : Nat} : ∀ {d : Nat}, ∃ m, grpK n b s (i + d) = grpK n b s i ++ m
 | 0 => ⟨[], (List.append_nil _).symm⟩
 | d + 1 => by
   obtain ⟨m, h⟩ := grpK_pres (i := i) (d := d)
   obtain ⟨m', h'⟩ := grpK_pre (n := n) (b := b) (s := s) (i := i + d)
   exact ⟨m ++ m', by rw [← Nat.add_assoc, h', h, List.append_assoc]⟩
theorem grpK_nod : ∀ {i : Nat}, (grpK n b s i).Nodup
 | 0 => by simp [grpK]
 | i + 1 => by
   rw [grpK]
   split
   · exact grpB_nod grpK_nod
   · exact grpK_nod
theorem grpK_getD {i : Nat} (h : i < (grpK n b s i).length) : (grpK n b s i).getD i 0 ∈ grpK n b s i := by
 rw [List.getD_eq_getElem?_getD, List.getElem?_eq_getElem h]; exact List.getElem_mem h
theorem grpK_min {P : Int → Prop} (hP : Cls n b P) (h0 : P s) : ∀ {i : Nat} {v : Int}, v ∈ grpK n b s i → P v
 | 0, v, h => by rw [List.mem_singleton.1 h]; exact h0
 | i + 1, v, h => by
   rw [grpK] at h
   split at h
   · rename_i hi
     rcases grpB_mem h with h | ⟨j, hj, hv, rfl⟩
     · exact grpK_min hP h0 h
     · exact (hP.othr hj hv).1 (grpK_min hP h0 (grpK_getD hi))
   · exact grpK_min hP h0 h
theorem grpK_stop {i : Nat} (h : (grpK n b s i).length ≤ i) : ∀ {d : Nat}, grpK n b s (i + d) = grpK n b s i
 | 0 => rfl
 | d + 1 => by
   have ih := grpK_stop h (d := d)
   rw [← Nat.add_assoc, grpK, if_neg (by rw [ih]; omega), ih]
theorem nod_few {N : Nat} {l : List Int} (h : l.Nodup) (hb : ∀ v ∈ l, 0 ≤ v ∧ v < N) : l.length ≤ N := by
 refine pigeon N l.length (fun i => (l.getD i 0).toNat) (fun i hi => ?_) fun i hi j hj e => ?_
 · have : l.getD i 0 ∈ l := by rw [List.getD_eq_getElem?_getD, List.getElem?_eq_getElem hi]; exact List.getElem_mem hi
   have := hb _ this
   show (l.getD i 0).toNat < N
   omega
 · have m : ∀ i, i < l.length → l.getD i 0 ∈ l := fun i hi => by rw [List.getD_eq_getElem?_getD, List.getElem?_eq_getElem hi]; exact List.getElem_mem hi
   have a := hb _ (m i hi)
   have c := hb _ (m j hj)
   have e : (l.getD i 0).toNat = (l.getD j 0).toNat := e
   have e2 : l.getD i 0 = l.getD j 0 := by omega
   rw [List.getD_eq_getElem?_getD, List.getD_eq_getElem?_getD, List.getElem?_eq_getElem hi, List.getElem?_eq_getElem hj] at e2
   have e2 : l[i] = l[j] := e2
   exact (List.getElem_inj h).1 e2
theorem grpK_kn (hk : ∀ i, i < n → (0 ≤ b i 0 ∧ b i 0 < 36) ∧ 0 ≤ b i 1 ∧ b i 1 < 36) (hs : 0 ≤ s ∧ s < 36) {i : Nat} : ∀ v ∈ grpK n b s i, 0 ≤ v ∧ v < 36 := fun v hv =>
 grpK_min (P := fun v => 0 ≤ v ∧ v < 36) (fun j hj => ⟨fun _ => (hk j hj).2, fun _ => (hk j hj).1⟩) hs hv
theorem grpK_few (hk : ∀ i, i < n → (0 ≤ b i 0 ∧ b i 0 < 36) ∧ 0 ≤ b i 1 ∧ b i 1 < 36) (hs : 0 ≤ s ∧ s < 36) {i : Nat} : (grpK n b s i).length ≤ 36 := nod_few grpK_nod (grpK_kn hk hs)
theorem grpK_end (hk : ∀ i, i < n → (0 ≤ b i 0 ∧ b i 0 < 36) ∧ 0 ≤ b i 1 ∧ b i 1 < 36) (hs : 0 ≤ s ∧ s < 36) {i : Nat} (hi : i ≤ 36) (h : (grpK n b s i).length ≤ i) : grpK n b s i = grp n b s := by
 have := grpK_stop h (d := 36 - i)
 rw [show i + (36 - i) = 36 by omega] at this
 rw [grp_eq]
 exact this.symm
theorem grp_self : s ∈ grp n b s := by
 obtain ⟨m, h⟩ := grpK_pres (n := n) (b := b) (s := s) (i := 0) (d := 36)
 rw [grp_eq]
 rw [Nat.zero_add] at h
 rw [h]
 exact List.mem_append.2 (.inl (List.mem_singleton.2 rfl))
theorem grp_min {P : Int → Prop} (hP : Cls n b P) (h0 : P s) {v : Int} (h : v ∈ grp n b s) : P v := grpK_min hP h0 (i := 36) (by rw [← grp_eq]; exact h)
theorem grp_nod : (grp n b s).Nodup := by rw [grp_eq]; exact grpK_nod
theorem grp_cls (hk : ∀ i, i < n → (0 ≤ b i 0 ∧ b i 0 < 36) ∧ 0 ≤ b i 1 ∧ b i 1 < 36) (hs : 0 ≤ s ∧ s < 36) : Cls n b (· ∈ grp n b s) := by
 have nb : ∀ v ∈ grp n b s, ∀ i, i < n → inc b i v = true → othr b i v ∈ grp n b s := fun v hv i hi hiv => by
   obtain ⟨p, hp, e⟩ := List.getElem_of_mem hv
   have hp36 : (grp n b s).length ≤ 36 := by rw [grp_eq]; exact grpK_few hk hs
   have hlt : p < (grpK n b s p).length := by
     apply Nat.lt_of_not_le
     intro hle
     have := grpK_end hk hs (by omega) hle
     rw [this] at hle; omega
   obtain ⟨m, h1⟩ := grpK_pres (n := n) (b := b) (s := s) (i := p) (d := 36 - p)
   rw [show p + (36 - p) = 36 by omega] at h1
   have ev : (grpK n b s p).getD p 0 = v := by
     have e' : (grp n b s)[p]? = some v := by rw [List.getElem?_eq_getElem hp, e]
     rw [grp_eq] at e'
     rw [h1, List.getElem?_append_left hlt] at e'
     rw [List.getD_eq_getElem?_getD, e']; rfl
   obtain ⟨m', h2⟩ := grpK_pres (n := n) (b := b) (s := s) (i := p + 1) (d := 36 - (p + 1))
   rw [show p + 1 + (36 - (p + 1)) = 36 by omega] at h2
   rw [grp_eq, h2]
   refine List.mem_append.2 (.inl ?_)
   rw [grpK, if_pos hlt, ev]
   exact grpB_has hi hiv
 intro i hi
 refine ⟨fun h => ?_, fun h => ?_⟩
 · have := nb _ h i hi (inc_iff.2 (.inl rfl))
   rwa [show othr b i (b i 0) = b i 1 by unfold othr; omega] at this
 · have := nb _ h i hi (inc_iff.2 (.inr rfl))
   rwa [show othr b i (b i 1) = b i 0 by unfold othr; omega] at this
end
def jnL : List Int → Int → Option Int
 | x :: y :: l, v => if v = x then some y else if v = y then some x else jnL l v
 | _, _ => none
theorem jnL_mem : ∀ {l : List Int} {v w : Int}, jnL l v = some w → v ∈ l ∧ w ∈ l
 | [], _, _, h => by cases h
 | [_], _, _, h => by cases h
 | x :: y :: l, v, w, h => by
   rw [jnL] at h
   split at h
   · rename_i c; injection h with h; subst c; subst h; simp
   · split at h
     · rename_i c; injection h with h; subst c; subst h; simp
     · have := jnL_mem h
       simp [this.1, this.2]
theorem jnL_sy : ∀ {l : List Int}, l.Nodup → ∀ {v w : Int}, jnL l v = some w → jnL l w = some v ∧ v ≠ w
 | [], _, _, _, h => by cases h
 | [_], _, _, _, h => by cases h
 | x :: y :: l, hn, v, w, h => by
   obtain ⟨h1, h2⟩ := List.nodup_cons.1 hn
   obtain ⟨h3, h4⟩ := List.nodup_cons.1 h2
   have xy : x ≠ y := fun e => h1 (by rw [e]; simp)
   rw [jnL] at h
   split at h
   · rename_i c; injection h with h; subst c; subst h
     rw [jnL, if_neg (Ne.symm xy), if_pos rfl]; exact ⟨rfl, xy⟩
   · rename_i c
     split at h
     · rename_i d; injection h with h; subst d; subst h
       rw [jnL, if_pos rfl]; exact ⟨rfl, Ne.symm xy⟩
     · rename_i d
       obtain ⟨k1, k2⟩ := jnL_sy h4 h
       have hw := (jnL_mem h).2
       refine ⟨?_, k2⟩
       rw [jnL, if_neg (by rintro rfl; exact h1 (by simp [hw])), if_neg (by rintro rfl; exact h3 hw), k1]
theorem jnL_some : ∀ {l : List Int} {m : Nat}, l.length = 2 * m → ∀ {v : Int}, (jnL l v).isSome = decide (v ∈ l)
 | [], m, _, v => by simp [jnL]
 | [_], m, h, v => by simp only [List.length_singleton] at h; omega
 | x :: y :: l, m, h, v => by
   have ih := jnL_some (l := l) (m := m - 1) (by simp only [List.length_cons] at h; omega) (v := v)
   rw [jnL]
   by_cases c : v = x
   · rw [if_pos c]; simp [c]
   · by_cases d : v = y
     · rw [if_neg c, if_pos d]; simp [d]
     · rw [if_neg c, if_neg d, ih]; simp [c, d]
theorem jnL_two : ∀ {l : List Int} {m : Nat} {x y : Int}, l.length = 2 * m → (l ++ [x, y]).Nodup → ∀ v, jnL (l ++ [x, y]) v = if v = y then some x else if v = x then some y else jnL l v
 | [], m, x, y, _, hn, v => by
   have xy : x ≠ y := fun e => by subst e; simp at hn
   show (if v = x then some y else if v = y then some x else none) = _
   by_cases c : v = x
   · subst c; rw [if_pos rfl, if_neg xy, if_pos rfl]
   · rw [if_neg c, if_neg c]; rfl
 | [_], m, _, _, h, _, _ => by simp only [List.length_singleton] at h; omega
 | p :: q :: l, m, x, y, h, hn, v => by
   obtain ⟨h1, h2⟩ := List.nodup_cons.1 hn
   obtain ⟨h3, h4⟩ := List.nodup_cons.1 h2
   have ih := jnL_two (l := l) (m := m - 1) (by simp only [List.length_cons] at h; omega) h4 v
   show (if v = p then some q else if v = q then some p else jnL (l ++ [x, y]) v) = if v = y then some x else if v = x then some y else if v = p then some q else if v = q then some p else jnL l v
   rw [ih]
   by_cases c : v = p
   · subst c
     have e1 : v ≠ y := fun e => h1 (by subst e; simp)
     have e2 : v ≠ x := fun e => h1 (by subst e; simp)
     rw [if_pos rfl, if_neg e1, if_neg e2, if_pos rfl]
   · by_cases d : v = q
     · subst d
       have e1 : v ≠ y := fun e => h3 (by subst e; simp)
       have e2 : v ≠ x := fun e => h3 (by subst e; simp)
       rw [if_neg c, if_pos rfl, if_neg e1, if_neg e2, if_neg c, if_pos rfl]
     · rw [if_neg c, if_neg d]
       by_cases e : v = y
       · rw [if_pos e, if_pos e]
       · rw [if_neg e, if_neg e]
         by_cases f : v = x
         · rw [if_pos f, if_pos f]
         · rw [if_neg f, if_neg f, if_neg c, if_neg d]
theorem xorN_xor {p q : Nat → Bool} : ∀ {n : Nat}, (xorN n p ^^ xorN n q) = xorN n fun i => p i ^^ q i
 | 0 => rfl
 | n + 1 => by
   rw [xorN, xorN, xorN, ← xorN_xor]
   cases xorN n p <;> cases xorN n q <;> cases p n <;> cases q n <;> rfl
theorem xorL_swap {n : Nat} (f : Nat → Int → Bool) : ∀ {K : List Int}, K.foldr (fun v a => xorN n (fun i => f i v) ^^ a) false = xorN n fun i => K.foldr (fun v a => f i v ^^ a) false
 | [] => by
   rw [xorN_false]
   · rfl
   · intro i _; rfl
 | v :: K => by
   have ih := xorL_swap (n := n) f (K := K)
   rw [List.foldr_cons, ih]
   rw [xorN_xor]
   rfl
theorem xorL_in {K : List Int} (h : K.Nodup) {f : Int → Bool} {x : Int} (hx : x ∈ K) (hf : ∀ v ∈ K, f v = decide (v = x)) : K.foldr (fun v a => f v ^^ a) false = true := by
 induction K with
 | nil => cases hx
 | cons v K ih =>
   obtain ⟨h1, h2⟩ := List.nodup_cons.1 h
   rw [List.foldr_cons, hf v (List.mem_cons.2 (.inl rfl))]
   rcases List.mem_cons.1 hx with e | hx
   · subst e
     have : K.foldr (fun v a => f v ^^ a) false = false := by
       have : ∀ L : List Int, (∀ w ∈ L, f w = false) → L.foldr (fun v a => f v ^^ a) false = false := by
         intro L
         induction L with
         | nil => intro _; rfl
         | cons w L ih => intro h; rw [List.foldr_cons, h w (List.mem_cons.2 (.inl rfl)), ih fun y hy => h y (List.mem_cons.2 (.inr hy))]; rfl
       exact this K fun w hw => by rw [hf w (List.mem_cons.2 (.inr hw)), decide_eq_false]; rintro rfl; exact h1 hw
     rw [this, decide_eq_true rfl]; rfl
   · rw [ih h2 hx fun w hw => hf w (List.mem_cons.2 (.inr hw)), decide_eq_false]
     · rfl
     · rintro rfl; exact h1 hx
theorem xorL_out {K : List Int} {f : Int → Bool} (hf : ∀ v ∈ K, f v = false) : K.foldr (fun v a => f v ^^ a) false = false := by
 induction K with
 | nil => rfl
 | cons v K ih => rw [List.foldr_cons, hf v (List.mem_cons.2 (.inl rfl)), ih fun w hw => hf w (List.mem_cons.2 (.inr hw))]; rfl
theorem xorL_xor {f g : Int → Bool} : ∀ {K : List Int}, K.foldr (fun v a => (f v ^^ g v) ^^ a) false = (K.foldr (fun v a => f v ^^ a) false ^^ K.foldr (fun v a => g v ^^ a) false)
 | [] => rfl
 | v :: K => by
   rw [List.foldr_cons, List.foldr_cons, List.foldr_cons, xorL_xor]
   cases f v <;> cases g v <;> cases K.foldr (fun v a => f v ^^ a) false <;> cases K.foldr (fun v a => g v ^^ a) false <;> rfl
theorem xorL_len {f : Int → Bool} : ∀ {K : List Int}, K.foldr (fun v a => f v ^^ a) false = decide ((K.filter f).length % 2 = 1)
 | [] => rfl
 | v :: K => by
   rw [List.foldr_cons, xorL_len, List.filter_cons]
   cases f v with
   | false => simp
   | true =>
     simp only [if_true, List.length_cons, Bool.true_xor]
     rw [← decide_not]
     apply decide_eq_decide.2
     omega
theorem odd_even {n : Nat} {b : Nat → Nat → Int} (hne : ∀ i, i < n → b i 0 ≠ b i 1) {K : List Int} (hn : K.Nodup) (hc : Cls n b (· ∈ K)) : ∃ m, (K.filter (oddB n b)).length = 2 * m := by
 have e : K.foldr (fun v a => oddB n b v ^^ a) false = false := by
   unfold oddB
   rw [xorL_swap fun i v => inc b i v]
   refine xorN_false fun i hi => ?_
   by_cases c : b i 0 ∈ K
   · have d := (hc i hi).1 c
     have : (fun (v : Int) (a : Bool) => inc b i v ^^ a) = fun v a => (decide (v = b i 0) ^^ decide (v = b i 1)) ^^ a := by
       funext v a
       rw [inc_ends (hne i hi) (.inl ⟨rfl, rfl⟩)]
     rw [this, xorL_xor, xorL_in hn c fun v _ => rfl, xorL_in hn d fun v _ => rfl]; rfl
   · have d : b i 1 ∉ K := fun d => c ((hc i hi).2 d)
     refine xorL_out fun v hv => ?_
     cases q : inc b i v with
     | false => rfl
     | true =>
       rcases inc_iff.1 q with e | e
       · rw [← e] at hv; exact absurd hv c
       · rw [← e] at hv; exact absurd hv d
 rw [xorL_len, decide_eq_false_iff_not] at e
 exact ⟨(K.filter (oddB n b)).length / 2, by omega⟩
end Nm
namespace Nm
open Go Go.Sx
def setI (g : Int → Int) (x m : Int) : Int → Int := fun v => if v = x then m else g v
def fwB (b : Nat → Nat → Int) : Nat → (Int → Int) → Int → Int
 | 0, g => g
 | i + 1, g => setI (setI (fwB b i g) (b i 0) (imin (fwB b i g (b i 0)) (fwB b i g (b i 1)))) (b i 1) (imin (fwB b i g (b i 0)) (fwB b i g (b i 1)))
def fwR (n : Nat) (b : Nat → Nat → Int) : Nat → Int → Int
 | 0 => fun v => v
 | r + 1 => fwB b n (fwR n b r)
theorem imin_le {x y : Int} : imin x y ≤ x ∧ imin x y ≤ y ∧ (imin x y = x ∨ imin x y = y) := by
 unfold imin; split <;> omega
section
variable {n : Nat} {b : Nat → Nat → Int}
theorem fwB_le {g : Int → Int} : ∀ {i : Nat} {v : Int}, fwB b i g v ≤ g v
 | 0, v => Int.le_refl _
 | i + 1, v => by
   have m := imin_le (x := fwB b i g (b i 0)) (y := fwB b i g (b i 1))
   have h0 := fwB_le (g := g) (i := i) (v := b i 0)
   have h1 := fwB_le (g := g) (i := i) (v := b i 1)
   have hv := fwB_le (g := g) (i := i) (v := v)
   unfold fwB setI
   split
   · rename_i e; subst e; omega
   · split
     · rename_i e; subst e; omega
     · exact hv
theorem fwB_cls {P : Int → Prop} (hP : Cls n b P) {g : Int → Int} (hg : ∀ v, P v ↔ P (g v)) : ∀ {i : Nat}, i ≤ n → ∀ v, P v ↔ P (fwB b i g v)
 | 0, _, v => hg v
 | i + 1, hi, v => by
   have ih := fwB_cls hP hg (i := i) (by omega)
   have c := hP i (by omega)
   have m := (imin_le (x := fwB b i g (b i 0)) (y := fwB b i g (b i 1))).2.2
   have hm : P (imin (fwB b i g (b i 0)) (fwB b i g (b i 1))) ↔ P (b i 0) := by
     rcases m with m | m
     · rw [m]; exact (ih _).symm
     · rw [m, ← ih]; exact c.symm
   unfold fwB setI
   split
   · rename_i e; subst e; rw [hm]; exact c.symm
   · split
     · rename_i e; subst e; rw [hm]
     · exact ih v
theorem fwR_cls {P : Int → Prop} (hP : Cls n b P) : ∀ {r : Nat} (v : Int), P v ↔ P (fwR n b r v)
 | 0, v => Iff.rfl
 | r + 1, v => fwB_cls hP (fwR_cls hP) (Nat.le_refl n) v
theorem fwR_le {r : Nat} {v : Int} : fwR n b (r + 1) v ≤ fwR n b r v := fwB_le
theorem fwB_least {K : List Int} (hc : Cls n b (· ∈ K)) {m : Int} (hm : ∀ v ∈ K, m ≤ v) {g : Int → Int} (hg : ∀ v, v ∈ K ↔ g v ∈ K) {i j : Nat} (hj : j < i) (hi : i ≤ n) {u : Int} (hu : u ∈ K) (h : inc b j u = true) (e : g u = m) : fwB b i g (othr b j u) = m := by
 have low : ∀ {i : Nat}, i ≤ n → ∀ v ∈ K, m ≤ fwB b i g v := fun {i} hi v hv => hm _ ((fwB_cls hc hg hi v).1 hv)
 have keep : ∀ {i : Nat}, i ≤ n → ∀ v ∈ K, ∀ {k : Nat}, k ≤ i → fwB b k g v = m → fwB b i g v = m := by
   intro i
   induction i with
   | zero => intro _ v _ k hk e; rw [show k = 0 by omega] at e; exact e
   | succ i ih =>
     intro hi v hv k hk e
     by_cases c : k = i + 1
     · rw [c] at e; exact e
     · have e1 := ih (by omega) v hv (by omega) e
       have l := low hi v hv
       have l2 : fwB b (i + 1) g v ≤ fwB b i g v := by
         have mm := imin_le (x := fwB b i g (b i 0)) (y := fwB b i g (b i 1))
         show setI _ _ _ v ≤ _
         unfold setI
         split
         · rename_i q; subst q; omega
         · split
           · rename_i q; subst q; omega
           · omega
       omega
 have hj' := keep (i := j) (by omega) u hu (Nat.zero_le j) (show fwB b 0 g u = m from e)
 have hjn : j < n := by omega
 have ho : othr b j u ∈ K := (hc.othr hjn h).1 hu
 refine keep hi _ ho (k := j + 1) (by omega) ?_
 have l0 := low (i := j) (by omega) (b j 0)
 have l1 := low (i := j) (by omega) (b j 1)
 have mm := imin_le (x := fwB b j g (b j 0)) (y := fwB b j g (b j 1))
 show setI _ _ _ (othr b j u) = m
 unfold setI
 rcases othr_of h with ⟨e1, e2⟩ | ⟨e1, e2⟩
 · rw [if_pos e2]
   rw [e2] at ho
   rw [e1] at hj'
   have := l1 ho
   omega
 · rw [e2]
   rw [e2] at ho
   rw [e1] at hj' hu
   have := l0 ho
   split <;> first | omega | (rw [if_pos rfl]; omega)
theorem fwB_keep {K : List Int} (hc : Cls n b (· ∈ K)) {m : Int} (hm : ∀ v ∈ K, m ≤ v) {g : Int → Int} (hg : ∀ v, v ∈ K ↔ g v ∈ K) {v : Int} (hv : v ∈ K) (e : g v = m) : fwB b n g v = m := by
 have := hm _ ((fwB_cls hc hg (Nat.le_refl n) v).1 hv)
 have := fwB_le (b := b) (g := g) (i := n) (v := v)
 omega
theorem least : ∀ {K : List Int}, K ≠ [] → ∃ m ∈ K, ∀ v ∈ K, m ≤ v
 | [], h => absurd rfl h
 | [x], _ => ⟨x, by simp, fun v hv => by rw [List.mem_singleton.1 hv]; exact Int.le_refl _⟩
 | x :: y :: l, _ => by
   obtain ⟨m, h1, h2⟩ := least (K := y :: l) (by simp)
   by_cases c : m ≤ x
   · exact ⟨m, List.mem_cons.2 (.inr h1), fun v hv => (List.mem_cons.1 hv).elim (fun e => by rw [e]; exact c) (h2 v)⟩
   · exact ⟨x, by simp, fun v hv => (List.mem_cons.1 hv).elim (fun e => by rw [e]; exact Int.le_refl _) (fun hv => by have := h2 v hv; omega)⟩
theorem fwR_same {N : Nat} (hN : N ≤ 36) (hk : ∀ i, i < n → (0 ≤ b i 0 ∧ b i 0 < N) ∧ 0 ≤ b i 1 ∧ b i 1 < N) {s : Int} (hs : 0 ≤ s ∧ s < N) : ∃ m, m ∈ grp n b s ∧ ∀ v ∈ grp n b s, fwR n b N v = m := by
 have hk36 : ∀ i, i < n → (0 ≤ b i 0 ∧ b i 0 < 36) ∧ 0 ≤ b i 1 ∧ b i 1 < 36 := fun i hi => by have := hk i hi; omega
 have hc := grp_cls hk36 (s := s) (by omega)
 have hkn : ∀ v ∈ grp n b s, 0 ≤ v ∧ v < N := fun v hv => grp_min (P := fun v => 0 ≤ v ∧ v < (N : Int)) (fun j hj => ⟨fun _ => (hk j hj).2, fun _ => (hk j hj).1⟩) hs hv
 obtain ⟨m, hm, hle⟩ := least (K := grp n b s) (fun e => by have := grp_self (n := n) (b := b) (s := s); rw [e] at this; cases this)
 refine ⟨m, hm, ?_⟩
 have gK : ∀ {r : Nat} (v : Int), v ∈ grp n b s ↔ fwR n b r v ∈ grp n b s := fun {r} v => fwR_cls hc v
 let f : Nat → Nat → Bool := fun r v => decide ((v : Int) ∈ grp n b s) && decide (fwR n b r (v : Int) = m)
 have f_iff : ∀ r (v : Nat), f r v = true ↔ (v : Int) ∈ grp n b s ∧ fwR n b r (v : Int) = m := fun r v => by
   show (decide _ && decide _) = true ↔ _
   rw [Bool.and_eq_true, decide_eq_true_eq, decide_eq_true_eq]
 have sub : ∀ r v, f r v = true → f (r + 1) v = true := fun r v h => by
   rw [f_iff] at h ⊢
   exact ⟨h.1, fwB_keep hc hle gK h.1 h.2⟩
 have step : ∀ r, (∀ v ∈ grp n b s, fwR n b r v = m) ∨ cntN N (f r) < cntN N (f (r + 1)) := fun r => by
   by_cases h : ∃ v : Nat, v < N ∧ f r v = false ∧ f (r + 1) v = true
   · obtain ⟨v, h1, h2, h3⟩ := h
     exact .inr (cntN_lt h1 (fun i _ => sub r i) h2 h3)
   · refine .inl fun v hv => ?_
     have clo : Cls n b fun v => v ∈ grp n b s ∧ fwR n b r v = m := by
       have one : ∀ i, i < n → ∀ u, inc b i u = true → (u ∈ grp n b s ∧ fwR n b r u = m) → (othr b i u ∈ grp n b s ∧ fwR n b r (othr b i u) = m) := fun i hi u hu ⟨h1, h2⟩ => by
         have ho := (hc.othr hi hu).1 h1
         refine ⟨ho, ?_⟩
         have e := fwB_least hc hle gK hi (Nat.le_refl n) h1 hu h2
         have hb := hkn _ ho
         cases q : f r (othr b i u).toNat with
         | true => rw [f_iff, show (((othr b i u).toNat : Nat) : Int) = othr b i u by omega] at q; exact q.2
         | false =>
           refine absurd ⟨(othr b i u).toNat, by omega, q, ?_⟩ h
           rw [f_iff, show (((othr b i u).toNat : Nat) : Int) = othr b i u by omega]
           exact ⟨ho, e⟩
       intro i hi
       refine ⟨fun h => ?_, fun h => ?_⟩
       · have := one i hi _ (inc_iff.2 (.inl rfl)) h
         rwa [show othr b i (b i 0) = b i 1 by unfold othr; omega] at this
       · have := one i hi _ (inc_iff.2 (.inr rfl)) h
         rwa [show othr b i (b i 1) = b i 0 by unfold othr; omega] at this
     have m0 : m ∈ grp n b s ∧ fwR n b r m = m := by
       refine ⟨hm, ?_⟩
       have h1 := hle _ ((gK (r := r) m).1 hm)
       have : ∀ r, fwR n b r m ≤ m := fun r => by
         induction r with
         | zero => exact Int.le_refl _
         | succ r ih => have := fwR_le (n := n) (b := b) (r := r) (v := m); omega
       have := this r
       omega
     have : s ∈ grp n b s ∧ fwR n b r s = m := by
       apply Classical.byContradiction
       intro ns
       exact grp_min (P := fun v => ¬ (v ∈ grp n b s ∧ fwR n b r v = m)) (fun i hi => not_congr (clo i hi)) ns hm m0
     exact (grp_min clo this hv).2
 have grow : ∀ r, (∀ v ∈ grp n b s, fwR n b r v = m) ∨ r + 1 ≤ cntN N (f r) := fun r => by
   induction r with
   | zero =>
     refine .inr ?_
     have hb := hkn m hm
     have := cntN_lt (n := N) (i := m.toNat) (p := fun _ => false) (q := f 0) (by omega) (fun _ _ h => by cases h) rfl (by rw [f_iff, show ((m.toNat : Nat) : Int) = m by omega]; exact ⟨hm, rfl⟩)
     omega
   | succ r ih =>
     rcases ih with ih | ih
     · exact .inl fun v hv => fwB_keep hc hle gK hv (ih v hv)
     · rcases step r with h | h
       · exact .inl fun v hv => fwB_keep hc hle gK hv (h v hv)
       · exact .inr (by omega)
 rcases grow N with h | h
 · exact h
 · have := cntN_max (p := f N) (n := N); omega
end
def meets (n : Nat) (b : Nat → Nat → Int) (v : Int) : Nat := cntN n fun i => inc b i v
theorem cnt_odd {p : Nat → Bool} : ∀ {n : Nat}, xorN n p = decide (cntN n p % 2 = 1)
 | 0 => rfl
 | n + 1 => by
   rw [xorN, cntN, cnt_odd]
   cases p n with
   | false => simp
   | true =>
     simp only [if_true, Bool.xor_true]
     rw [← decide_not]
     apply decide_eq_decide.2
     omega
theorem oddB_meets {n : Nat} {b : Nat → Nat → Int} {v : Int} : oddB n b v = decide (meets n b v % 2 = 1) := cnt_odd
theorem meets_pos {n : Nat} {b : Nat → Nat → Int} {v : Int} : 0 < meets n b v ↔ ∃ i, i < n ∧ inc b i v = true := by
 unfold meets
 have : ∀ {n : Nat} {p : Nat → Bool}, 0 < cntN n p ↔ ∃ i, i < n ∧ p i = true := by
   intro n p
   induction n with
   | zero => simp [cntN]
   | succ n ih =>
     rw [cntN]
     constructor
     · intro h
       by_cases c : p n = true
       · exact ⟨n, by omega, c⟩
       · rw [if_neg c] at h
         obtain ⟨i, h1, h2⟩ := ih.1 (by omega)
         exact ⟨i, by omega, h2⟩
     · intro ⟨i, h1, h2⟩
       by_cases c : i = n
       · subst c; rw [if_pos h2]; omega
       · have := ih.2 ⟨i, by omega, h2⟩; omega
 exact this
def anyG (N n : Nat) (b : Nat → Nat → Int) (G : Int → Int) (g : Nat) : Nat → Bool
 | 0 => false
 | i + 1 => anyG N n b G g i || (decide (G (i : Int) = g) && decide (0 < meets n b (i : Int)))
def oddG (n : Nat) (b : Nat → Nat → Int) (G : Int → Int) (g : Nat) : Nat → Nat
 | 0 => 0
 | i + 1 => oddG n b G g i + if G (i : Int) = g ∧ 0 < meets n b (i : Int) then meets n b (i : Int) % 2 else 0
def needG (N n : Nat) (b : Nat → Nat → Int) (G : Int → Int) (g : Nat) : Nat := if anyG N n b G g N = true then max 1 (oddG n b G g N / 2) else 0
def sumF : Nat → (Nat → Nat) → Nat
 | 0, _ => 0
 | n + 1, f => sumF n f + f n
def few (N n : Nat) (b : Nat → Nat → Int) : Nat := sumF N (needG N n b (fwR n b N))
theorem anyG_iff {N n : Nat} {b : Nat → Nat → Int} {G : Int → Int} {g : Nat} : ∀ {i : Nat}, anyG N n b G g i = true ↔ ∃ v : Nat, v < i ∧ G v = g ∧ 0 < meets n b v
 | 0 => by simp [anyG]
 | i + 1 => by
   rw [anyG, Bool.or_eq_true, anyG_iff, Bool.and_eq_true, decide_eq_true_eq, decide_eq_true_eq]
   constructor
   · rintro (⟨v, h1, h2⟩ | h)
     · exact ⟨v, by omega, h2⟩
     · exact ⟨i, by omega, h⟩
   · intro ⟨v, h1, h2⟩
     by_cases c : v = i
     · subst c; exact .inr h2
     · exact .inl ⟨v, by omega, h2⟩
theorem sumF_congr {f g : Nat → Nat} : ∀ {n : Nat}, (∀ i, i < n → f i = g i) → sumF n f = sumF n g
 | 0, _ => rfl
 | n + 1, h => by rw [sumF, sumF, sumF_congr fun i hi => h i (by omega), h n (by omega)]
theorem sumF_le {f g : Nat → Nat} : ∀ {n : Nat}, (∀ i, i < n → f i ≤ g i) → sumF n f ≤ sumF n g
 | 0, _ => Nat.le_refl _
 | n + 1, h => by
   have := sumF_le (f := f) (g := g) (n := n) fun i hi => h i (by omega)
   have := h n (by omega)
   rw [sumF, sumF]; omega
theorem sumF_one {f g : Nat → Nat} {k d : Nat} : ∀ {n : Nat}, k < n → (∀ i, i < n → i ≠ k → f i = g i) → f k = g k + d → sumF n f = sumF n g + d
 | 0, h, _, _ => by omega
 | n + 1, h, hn, hk => by
   rw [sumF, sumF]
   by_cases c : k = n
   · subst c
     rw [sumF_congr (f := f) (g := g) fun i hi => hn i (by omega) (by omega), hk]; omega
   · rw [sumF_one (n := n) (by omega) (fun i hi => hn i (by omega)) hk, hn n (by omega) fun e => c e.symm]; omega
theorem sumF_zero {f : Nat → Nat} : ∀ {n : Nat}, (∀ i, i < n → f i = 0) → sumF n f = 0
 | 0, _ => rfl
 | n + 1, h => by rw [sumF, sumF_zero fun i hi => h i (by omega), h n (by omega)]
theorem cnt_list {N : Nat} : ∀ {l : List Int}, l.Nodup → (∀ v ∈ l, 0 ≤ v ∧ v < N) → cntN N (fun v => decide ((v : Int) ∈ l)) = l.length
 | [], _, _ => by
   have : ∀ {n : Nat}, cntN n (fun v => decide ((v : Int) ∈ ([] : List Int))) = 0 := by
     intro n
     induction n with
     | zero => rfl
     | succ n ih => rw [cntN, ih]; simp
   exact this
 | x :: l, h, hb => by
   obtain ⟨h1, h2⟩ := List.nodup_cons.1 h
   have ih := cnt_list (N := N) h2 fun v hv => hb v (List.mem_cons.2 (.inr hv))
   have hx := hb x (List.mem_cons.2 (.inl rfl))
   rw [List.length_cons, ← ih]
   have : ∀ {n : Nat}, cntN n (fun v => decide ((v : Int) ∈ x :: l)) = cntN n (fun v => decide ((v : Int) ∈ l)) + if x.toNat < n then 1 else 0 := by
     intro n
     induction n with
     | zero => simp [cntN]
     | succ n ihn =>
       rw [cntN, cntN, ihn]
       by_cases c : x.toNat = n
       · have e : (n : Int) = x := by omega
         rw [e, if_neg (show ¬ x.toNat < n by omega), if_pos (show x.toNat < n + 1 by omega), if_pos (by simp), if_neg (by simp [h1])]
       · have e : ¬ (n : Int) = x := by omega
         have q : decide ((n : Int) ∈ x :: l) = decide ((n : Int) ∈ l) := by
           apply decide_eq_decide.2
           rw [List.mem_cons]
           exact ⟨fun h => h.resolve_left e, .inr⟩
         rw [q]
         by_cases d : x.toNat < n
         · rw [if_pos d, if_pos (show x.toNat < n + 1 by omega)]; omega
         · rw [if_neg d, if_neg (show ¬ x.toNat < n + 1 by omega)]; omega
   rw [this, if_pos (by omega)]
end Nm
