/- Texts for the law of the last part, part 4. -/
import Derived.Test.YtpigkgoooekcgaaTopEqualsP03
import Derived.Maps.Keyed
set_option linter.unusedSimpArgs false
set_option linter.unusedVariables false
namespace Go.Sx
def Own (β : Nat → Loc) (hp : Nat → Option Blk) (b : Nat) : Prop := ∃ n blk ln, hp n = some blk ∧ β n = .at b ln
structure SatH (E : Env) (B : Nat) (Fr : Nat → Prop) (β : Nat → Loc) (Z : Nat → Prop) (hp : Nat → Option Blk) (w : World) : Prop where
 rb : ∀ n blk, hp n = some blk → RB β Z w (β n) blk
 own : ∀ n blk b ln, hp n = some blk → β n = .at b ln → b < w.heap.size ∧ ¬ Z b ∧ B ≤ b
 inj : ∀ n m x y b l1 l2, hp n = some x → hp m = some y → β n = .at b l1 → β m = .at b l2 → n = m
 zlt : ∀ b, Z b → b < w.heap.size
 fresh : ∀ n, Fr n → β n = .no
 gl : GlOk E Z w
section
variable {P : Program} {E : Env} {B : Nat} {Fr Fr' : Nat → Prop} {β β' : Nat → Loc} {Z Z' : Nat → Prop} {hp hp' : Nat → Option Blk} {w w' : World}
theorem SatH.calm (h : SatH E B Fr β Z hp w) : Calm (Own β hp) Z w :=
 fun b hb => ⟨h.zlt b hb, fun ⟨n, blk, ln, h1, h2⟩ => (h.own n blk b ln h1 h2).2.1 hb⟩
theorem GlOk.mono {own : Nat → Prop} (h : GlOk E Z w) (ev : Evo own Z w Z' w') (hc : Calm own Z w) : GlOk E Z' w' := fun g n get hg => by
 obtain ⟨h1, h2⟩ := h g n get hg
 refine ⟨ev.zmono g h1, fun j hj => ?_⟩
 obtain ⟨u, hu, hr⟩ := h2 j hj
 exact ⟨u, by rw [ev.cell hc h1]; exact hu, RP.mono ev hc hr⟩
theorem SatH.step (h : SatH E B Fr β Z hp w) (ev : Evo (Own β hp) Z w Z' w') (ext : Ext β β')
   (keep : ∀ n blk, hp' n = some blk → (hp n = some blk ∧ (∀ b ln, β n = .at b ln → w'.heap[b]? = w.heap[b]? ∧ ¬ Z' b)) ∨ (RB β' Z' w' (β' n) blk ∧ ∀ b ln, β' n = .at b ln → b < w'.heap.size ∧ ¬ Z' b ∧ B ≤ b))
   (inj' : ∀ n m x y b l1 l2, hp' n = some x → hp' m = some y → β' n = .at b l1 → β' m = .at b l2 → n = m)
   (zlt' : ∀ b, Z' b → b < w'.heap.size) (fr' : ∀ n, Fr' n → β' n = .no) : SatH E B Fr' β' Z' hp' w' := by
 have known : ∀ n blk, hp n = some blk → β' n = β n := fun n blk hn => ext n (by
   intro e
   have := h.rb n blk hn
   rw [e] at this
   cases blk <;> exact this.elim)
 refine ⟨fun n blk hn => ?_, fun n blk b ln hn hb => ?_, inj', zlt', fr', h.gl.mono ev h.calm⟩
 · rcases keep n blk hn with ⟨h1, h2⟩ | ⟨h1, _⟩
   · rw [known n blk h1]
     exact RB.mono ev h.calm ext (fun b ln hb => (h2 b ln hb).1) (h.rb n blk h1)
   · exact h1
 · rcases keep n blk hn with ⟨h1, h2⟩ | ⟨_, h2⟩
   · rw [known n blk h1] at hb
     obtain ⟨g1, _, g3⟩ := h.own n blk b ln h1 hb
     exact ⟨Nat.lt_of_lt_of_le g1 ev.size, (h2 b ln hb).2, g3⟩
   · exact h2 b ln hb
theorem Evo.alloc (own : Nat → Prop) (Z : Nat → Prop) (w : World) (o : Obj) : Evo own Z w Z (w.alloc o) :=
 ⟨rfl, rfl, rfl, by simp, fun b hb _ => heap_alloc_old w o b hb, fun b cs e hb => ⟨cs, by rw [heap_alloc_old w o b (Array.getElem?_eq_some_iff.1 hb).1]; exact hb, rfl⟩,
   fun b r hb => ⟨r, by rw [heap_alloc_old w o b (Array.getElem?_eq_some_iff.1 hb).1]; exact hb, rfl, rfl, rfl, rfl, rfl, rfl⟩, fun _ h => h⟩
theorem ext_upd {nm : Nat} {l : Loc} (h : β nm = .no) : Ext β (upd β nm l) := fun n hn => by
 rw [upd_ne]
 intro e; subst e; exact hn h
theorem RBc.mono {own : Nat → Prop} (ev : Evo own Z w Z' w') (hc : Calm own Z w) (ext : Ext β β') {ln : Nat} {cs : Array Value} {e : TypeId} {blk : Blk} (h : RBc β Z w ln cs e blk) : RBc β' Z' w' ln cs e blk := by
 cases blk with
 | box n get => exact ⟨h.1, fun j hj => let ⟨u, hu, hr⟩ := h.2 j hj; ⟨u, hu, RC.mono ev hc ext hr⟩⟩
 | row e' size len get => exact ⟨h.1, h.2.1, h.2.2.1, fun i hi j hj => let ⟨u, hu, hr⟩ := h.2.2.2 i hi j hj; ⟨u, hu, RP.mono ev hc hr⟩⟩
 | mp => exact h.elim
 | mpI => exact h.elim
 | mq => exact h.elim
 | lp => exact h.elim
theorem not_known (h : SatH E B Fr β Z hp w) {nm : Nat} (hf : β nm = .no) : hp nm = none := by
 cases hn : hp nm with
 | none => rfl
 | some blk =>
   have := h.rb nm blk hn
   rw [hf] at this
   cases blk <;> exact this.elim
structure Left (E : Env) (B : Nat) (Fr' : Nat → Prop) (β : Nat → Loc) (Z : Nat → Prop) (hp : Nat → Option Blk) (w : World) (β' : Nat → Loc) (Z' : Nat → Prop) (hp' : Nat → Option Blk) (w' : World) : Prop where
 sat : SatH E B Fr' β' Z' hp' w'
 ev : Evo (Own β hp) Z w Z' w'
 ext : Ext β β'
 own : ∀ b, Own β' hp' b → Own β hp b ∨ w.heap.size ≤ b
 zown : ∀ b, Z' b → Z b ∨ Own β hp b ∨ w.heap.size ≤ b
theorem SatH.mk_obj (h : SatH E B Fr β Z hp w) (hB : B ≤ w.heap.size) {nm : Nat} (hf : Fr nm) {blk : Blk} {o : Obj} {ln : Nat} (hrb : RB (upd β nm (.at w.heap.size ln)) Z (w.alloc o) (.at w.heap.size ln) blk) :
   Left E B (fun n => Fr n ∧ n ≠ nm) β Z hp w (upd β nm (.at w.heap.size ln)) Z (upd hp nm (some blk)) (w.alloc o) := by
 have hno := h.fresh nm hf
 have hx := ext_upd (l := .at w.heap.size ln) hno
 have ev := Evo.alloc (Own β hp) Z w o
 have hnone := not_known h hno
 have other : ∀ n blk', upd hp nm (some blk) n = some blk' → n ≠ nm → hp n = some blk' := fun n blk' h1 h2 => by rw [upd_ne _ _ h2] at h1; exact h1
 refine ⟨h.step ev hx (fun n blk' hn => ?_) (fun n m x y b l1 l2 hn hm hb1 hb2 => ?_) (fun b hb => by simp; exact Nat.lt_succ_of_lt (h.zlt b hb)) (fun n hn => by rw [upd_ne _ _ hn.2]; exact h.fresh n hn.1), ev, hx, fun b hb => ?_, fun b hb => .inl hb⟩
 · by_cases hnn : n = nm
   · subst hnn
     rw [upd_same] at hn; injection hn with hn; subst hn
     rw [upd_same]
     refine .inr ⟨hrb, fun b ln' hb => ?_⟩
     injection hb with hb1 hb2; subst hb1
     exact ⟨by simp, fun hz => Nat.lt_irrefl _ (h.zlt _ hz), hB⟩
   · have h1 := other n blk' hn hnn
     refine .inl ⟨h1, fun b ln' hb => ?_⟩
     obtain ⟨g1, g2, _⟩ := h.own n blk' b ln' h1 hb
     exact ⟨heap_alloc_old w _ b g1, g2⟩
 · by_cases hnn : n = nm
   · by_cases hmm : m = nm
     · rw [hnn, hmm]
     · subst hnn
       rw [upd_same] at hb1; injection hb1 with e1 _; subst e1
       have h1 := other m y hm hmm
       rw [upd_ne _ _ hmm] at hb2
       exact absurd (h.own m y _ _ h1 hb2).1 (Nat.lt_irrefl _)
   · by_cases hmm : m = nm
     · subst hmm
       rw [upd_same] at hb2; injection hb2 with e1 _; subst e1
       have h1 := other n x hn hnn
       rw [upd_ne _ _ hnn] at hb1
       exact absurd (h.own n x _ _ h1 hb1).1 (Nat.lt_irrefl _)
     · rw [upd_ne _ _ hnn] at hb1
       rw [upd_ne _ _ hmm] at hb2
       exact h.inj n m x y b l1 l2 (other n x hn hnn) (other m y hm hmm) hb1 hb2
 · obtain ⟨n, blk', ln', h1, h2⟩ := hb
   by_cases hnn : n = nm
   · subst hnn; rw [upd_same] at h2; injection h2 with e1 _; subst e1; exact .inr (Nat.le_refl _)
   · rw [upd_ne _ _ hnn] at h2
     exact .inl ⟨n, blk', ln', other n blk' h1 hnn, h2⟩
theorem SatH.mk_block (h : SatH E B Fr β Z hp w) (hB : B ≤ w.heap.size) {nm : Nat} (hf : Fr nm) {blk : Blk} {cs : Array Value} {e : TypeId} {ln : Nat} (hc : RBc β Z w ln cs e blk) :
   Left E B (fun n => Fr n ∧ n ≠ nm) β Z hp w (upd β nm (.at w.heap.size ln)) Z (upd hp nm (some blk)) (w.alloc (.cells cs e)) :=
 h.mk_obj hB hf (RB.of_c (heap_alloc_new w _) (hc.mono (Evo.alloc (Own β hp) Z w (.cells cs e)) h.calm (ext_upd (h.fresh nm hf))))
theorem SatH.write (h : SatH E B Fr β Z hp w) {n : Nat} {old blk : Blk} (hn : hp n = some old) {b ln : Nat} (hb : β n = .at b ln) {cs cs' : Array Value} {e : TypeId} (hcs : w.heap[b]? = some (.cells cs e (0, 0))) (hsz : cs'.size = cs.size)
   (hc : RBc β Z w ln cs' e blk) : Left E B Fr β Z hp w β Z (upd hp n (some blk)) (w.setRow b cs') := by
 have ev : Evo (Own β hp) Z w Z (w.setRow b cs') := by
   refine ⟨rfl, rfl, rfl, by simp, fun k hk hno => ?_, fun k ks ke hk => ?_, fun k r hk => ⟨r, ?_, rfl, rfl, rfl, rfl, rfl, rfl⟩, fun _ h => h⟩
   · refine setRow_other w b k cs' (fun e1 => hno ?_)
     subst e1; exact ⟨n, old, ln, hn, hb⟩
   · by_cases hkb : k = b
     · subst hkb
       rw [hcs] at hk; injection hk with hk; injection hk with h1 h2 h3
       subst h1; subst h2
       exact ⟨cs', setRow_heap w k cs cs' e (0, 0) hcs, hsz⟩
     · exact ⟨ks, by rw [setRow_other w b k cs' hkb]; exact hk, rfl⟩
   · rw [setRow_other w b k cs' (fun e1 => by subst e1; rw [hcs] at hk; simp at hk)]; exact hk
 have hx := Ext.refl β
 refine ⟨h.step ev hx (fun m blk' hm => ?_) (fun m1 m2 x y b' l1 l2 h1 h2 hb1 hb2 => ?_) (fun b' hb' => by simpa using h.zlt b' hb') h.fresh, ev, hx, fun b' hb' => ?_, fun b hb => .inl hb⟩
 · by_cases hmn : m = n
   · subst hmn
     rw [upd_same] at hm; injection hm with hm; subst hm
     refine .inr ⟨by rw [hb]; exact RB.of_c (setRow_heap w b cs cs' e (0, 0) hcs) (hc.mono ev h.calm hx), fun b' ln' hb' => ?_⟩
     obtain ⟨g1, g2, g3⟩ := h.own m old b' ln' hn hb'
     exact ⟨by simpa using g1, g2, g3⟩
   · rw [upd_ne _ _ hmn] at hm
     refine .inl ⟨hm, fun b' ln' hb' => ?_⟩
     obtain ⟨g1, g2, _⟩ := h.own m blk' b' ln' hm hb'
     refine ⟨setRow_other w b b' cs' (fun e1 => hmn ?_), g2⟩
     subst e1
     exact h.inj m n _ _ _ _ _ hm hn hb' hb
 · have some_of : ∀ m x, upd hp n (some blk) m = some x → ∃ x', hp m = some x' := fun m x hm => by
     by_cases hmn : m = n
     · subst hmn; exact ⟨old, hn⟩
     · rw [upd_ne _ _ hmn] at hm; exact ⟨x, hm⟩
   obtain ⟨x', hx'⟩ := some_of m1 x h1
   obtain ⟨y', hy'⟩ := some_of m2 y h2
   exact h.inj m1 m2 x' y' b' l1 l2 hx' hy' hb1 hb2
 · obtain ⟨m, x, ln', h1, h2⟩ := hb'
   by_cases hmn : m = n
   · subst hmn; exact .inl ⟨m, old, ln', hn, h2⟩
   · rw [upd_ne _ _ hmn] at h1; exact .inl ⟨m, x, ln', h1, h2⟩
theorem SatH.freeze (h : SatH E B Fr β Z hp w) (n : Nat) :
   Left E B Fr β Z hp w β (fun b => Z b ∨ (∃ blk ln, hp n = some blk ∧ β n = .at b ln)) (upd hp n none) w := by
 have ev : Evo (Own β hp) Z w (fun b => Z b ∨ (∃ blk ln, hp n = some blk ∧ β n = .at b ln)) w :=
   ⟨rfl, rfl, rfl, Nat.le_refl _, fun _ _ _ => rfl, fun _ cs _ h => ⟨cs, h, rfl⟩, fun _ r h => ⟨r, h, rfl, rfl, rfl, rfl, rfl, rfl⟩, fun _ h => .inl h⟩
 have other : ∀ m x, upd hp n none m = some x → m ≠ n ∧ hp m = some x := fun m x hm => by
   by_cases hmn : m = n
   · subst hmn; rw [upd_same] at hm; exact absurd hm (by simp)
   · rw [upd_ne _ _ hmn] at hm; exact ⟨hmn, hm⟩
 refine ⟨h.step ev (Ext.refl β) (fun m x hm => ?_) (fun m1 m2 x y b' l1 l2 h1 h2 => h.inj m1 m2 x y b' l1 l2 (other m1 x h1).2 (other m2 y h2).2) (fun b hb => ?_) h.fresh, ev, Ext.refl β, fun b hb => ?_, fun b hb => hb.elim .inl (fun ⟨blk, ln, h1, h2⟩ => .inr (.inl ⟨n, blk, ln, h1, h2⟩))⟩
 · obtain ⟨hmn, hm⟩ := other m x hm
   refine .inl ⟨hm, fun b ln hb => ⟨rfl, ?_⟩⟩
   rintro (hz | ⟨blk, ln', h1, h2⟩)
   · exact (h.own m x b ln hm hb).2.1 hz
   · exact hmn (h.inj m n x blk b ln ln' hm h1 hb h2)
 · rcases hb with hb | ⟨blk, ln, h1, h2⟩
   · exact h.zlt b hb
   · exact (h.own n blk b ln h1 h2).1
 · obtain ⟨m, x, ln, h1, h2⟩ := hb
   exact .inl ⟨m, x, ln, (other m x h1).2, h2⟩
def dropO (o : Option Nat) (hp : Nat → Option Blk) : Nat → Option Blk := match o with | some n => upd hp n none | none => hp
theorem SatH.app (h : SatH E B Fr β Z hp w) (hB : B ≤ w.heap.size) {nm : Nat} (hf : Fr nm) {drop : Option Nat} {old : Option Nat} {s : Sem Value} {e size len : Nat} {get : Nat → Nat → CV} (ha : AppOk P Z w old s e size len get)
   (hold : ∀ b, old = some b → ∃ n blk ln, drop = some n ∧ hp n = some blk ∧ β n = .at b ln) :
   ∃ u w' l, s.run P w = .ok u w' ∧ Left E B (fun n => Fr n ∧ n ≠ nm) β Z hp w (upd β nm l) Z (upd (dropO drop hp) nm (some (.row e size len get))) w' ∧
     RA (upd β nm l) Z w' (.t (.c (.os nm size len))) u := by
 obtain ⟨u, w', hrun, hgr, hrows, hres⟩ := ha
 have hno := h.fresh nm hf
 have hnone := not_known h hno
 have ev : Evo (Own β hp) Z w Z w' := by
   refine ⟨hgr.os, hgr.tape, hgr.output, hgr.size, fun b hb hno => hgr.block b hb (fun e1 => hno ?_), fun b cs e' hb => ?_, fun b r hb => ⟨r, ?_, rfl, rfl, rfl, rfl, rfl, rfl⟩, fun _ h => h⟩
   · obtain ⟨n, blk, ln, _, h2, h3⟩ := hold b e1.symm
     exact ⟨n, blk, ln, h2, h3⟩
   · by_cases hbo : some b = old
     · obtain ⟨cs1, cs2, e1, h1, h2, h3⟩ := hrows b hbo.symm
       rw [hb] at h1; injection h1 with h1; injection h1 with h1 h1' _
       subst h1; subst h1'
       exact ⟨cs2, h2, h3⟩
     · exact ⟨cs, by rw [hgr.block b (Array.getElem?_eq_some_iff.1 hb).1 hbo]; exact hb, rfl⟩
   · by_cases hbo : some b = old
     · obtain ⟨cs1, cs2, e1, h1, h2, h3⟩ := hrows b hbo.symm
       rw [hb] at h1; simp at h1
     · rw [hgr.block b (Array.getElem?_eq_some_iff.1 hb).1 hbo]; exact hb
 have hd : ∀ m x, (dropO drop hp) m = some x → hp m = some x ∧ drop ≠ some m := fun m x hm => by
   cases drop with
   | none => exact ⟨hm, by simp⟩
   | some n =>
     by_cases hmn : m = n
     · subst hmn; simp only [dropO, upd_same] at hm; exact absurd hm (by simp)
     · simp only [dropO, upd_ne _ _ hmn] at hm; exact ⟨hm, by simp; exact fun e => hmn e.symm⟩
 have fin : ∀ l : Loc, RB (upd β nm l) Z w' l (.row e size len get) → (∀ b ln, l = .at b ln → b < w'.heap.size ∧ ¬ Z b ∧ B ≤ b ∧ (old = some b ∨ w.heap.size ≤ b)) →
     Left E B (fun n => Fr n ∧ n ≠ nm) β Z hp w (upd β nm l) Z (upd (dropO drop hp) nm (some (.row e size len get))) w' := by
   intro l hl hlb
   have hx := ext_upd (l := l) hno
   have other : ∀ m x, upd (dropO drop hp) nm (some (.row e size len get)) m = some x → m ≠ nm → hp m = some x ∧ drop ≠ some m := fun m x hm hmn => by
     rw [upd_ne _ _ hmn] at hm; exact hd m x hm
   have notold : ∀ m x b ln, hp m = some x → drop ≠ some m → β m = .at b ln → old ≠ some b := fun m x b ln hm hdm hb e1 => by
     obtain ⟨n, blk, ln', h1, h2, h3⟩ := hold b e1
     have := h.inj m n x blk b ln ln' hm h2 hb h3
     subst this; exact hdm h1
   refine ⟨h.step ev hx (fun n blk hn => ?_) (fun n m x y b l1 l2 hn hm hb1 hb2 => ?_) (fun b hb => Nat.lt_of_lt_of_le (h.zlt b hb) hgr.size) (fun n hn => by rw [upd_ne _ _ hn.2]; exact h.fresh n hn.1), ev, hx, fun b hb => ?_, fun b hb => .inl hb⟩
   · by_cases hnn : n = nm
     · subst hnn
       rw [upd_same] at hn; injection hn with hn; subst hn
       rw [upd_same]
       exact .inr ⟨hl, fun b ln hb => let ⟨q1, q2, q3, _⟩ := hlb b ln hb; ⟨q1, q2, q3⟩⟩
     · obtain ⟨h1, h2⟩ := other n blk hn hnn
       refine .inl ⟨h1, fun b ln hb => ?_⟩
       obtain ⟨g1, g2, _⟩ := h.own n blk b ln h1 hb
       exact ⟨hgr.block b g1 (fun e1 => notold n blk b ln h1 h2 hb e1.symm), g2⟩
   · have clash : ∀ m y b l2 ln, hp m = some y → drop ≠ some m → β m = .at b l2 → l = .at b ln → False := fun m y b l2 ln hm hdm hb e1 => by
       obtain ⟨_, _, _, q⟩ := hlb b ln e1
       rcases q with q | q
       · exact notold m y b l2 hm hdm hb q
       · exact absurd (h.own m y b l2 hm hb).1 (by omega)
     by_cases hnn : n = nm
     · by_cases hmm : m = nm
       · rw [hnn, hmm]
       · subst hnn
         rw [upd_same] at hb1
         obtain ⟨h1, h2⟩ := other m y hm hmm
         rw [upd_ne _ _ hmm] at hb2
         exact (clash m y b l2 l1 h1 h2 hb2 hb1).elim
     · by_cases hmm : m = nm
       · subst hmm
         rw [upd_same] at hb2
         obtain ⟨h1, h2⟩ := other n x hn hnn
         rw [upd_ne _ _ hnn] at hb1
         exact (clash n x b l1 l2 h1 h2 hb1 hb2).elim
       · rw [upd_ne _ _ hnn] at hb1
         rw [upd_ne _ _ hmm] at hb2
         exact h.inj n m x y b l1 l2 (other n x hn hnn).1 (other m y hm hmm).1 hb1 hb2
   · obtain ⟨n, blk, ln, h1, h2⟩ := hb
     by_cases hnn : n = nm
     · subst hnn
       rw [upd_same] at h2
       obtain ⟨_, _, _, q⟩ := hlb b ln h2
       rcases q with q | q
       · obtain ⟨n', blk', ln', _, g2, g3⟩ := hold b q
         exact .inl ⟨n', blk', ln', g2, g3⟩
       · exact .inr q
     · rw [upd_ne _ _ hnn] at h2
       exact .inl ⟨n, blk, ln, (other n blk h1 hnn).1, h2⟩
 rcases hres with ⟨rfl, rfl⟩ | ⟨b, cap, cs, rfl, hbo, hb, hl, hm, hs, hcell⟩
 · refine ⟨_, w', .virt, hrun, fin .virt rfl (fun b ln hb => by simp at hb), ?_⟩
   show ROs w' (upd β nm .virt nm) size 0 _
   rw [upd_same]; exact ⟨rfl, rfl⟩
 · refine ⟨_, w', .at b len, hrun, fin (.at b len) ⟨rfl, cs, hb, ?_, fun i hi j hj => ?_⟩ (fun b' ln hb' => ?_), ?_⟩
   · rw [hs]; exact Nat.mul_le_mul_right _ hl
   · obtain ⟨x, h1, h2⟩ := hcell i hi j hj
     exact ⟨x, h1, RP.mono ev h.calm h2⟩
   · injection hb' with e1 _; subst e1
     have hlt : b < w'.heap.size := (Array.getElem?_eq_some_iff.1 hb).1
     rcases hbo with hbo | ⟨hge, _⟩
     · obtain ⟨n, blk, ln', h1, h2, h3⟩ := hold b hbo
       obtain ⟨_, g2, g3⟩ := h.own n blk b ln' h2 h3
       exact ⟨hlt, g2, g3, .inl hbo⟩
     · exact ⟨hlt, fun hz => absurd (h.zlt b hz) (by omega), by omega, .inr hge⟩
   · show ROs w' (upd β nm (.at b len) nm) size len _
     rw [upd_same]
     exact ⟨rfl, cap, rfl, hl, hm, cs, e, hb, hs⟩
def Plan.conds : Plan → List Prop
 | .ok c _ => c
 | .mk c _ _ => c
 | .wr c _ _ => c
 | .we c _ _ _ => c
 | .mv c _ _ _ => c
 | .fz c _ _ => c
 | .wz c _ _ _ => c
 | _ => []
def Plan.eff (p : Plan) (nm : Nat) (hp : Nat → Option Blk) : Option ((Nat → Option Blk) × AV) :=
 match p with
 | .ok _ v => some (hp, v)
 | .mk _ b v => some (upd hp nm (some b), v nm)
 | .wr _ n b => some (upd hp n (some b), .any)
 | .we _ n b v => some (upd hp n (some b), v)
 | .mv _ n b v => some (upd (upd hp n none) nm (some b), v nm)
 | .fz _ n v => some (upd hp n none, v)
 | .wz _ n b m => some (upd (upd hp m none) n (some b), .any)
 | _ => none
def OpOk (P : Program) (E : Env) (B : Nat) (Fr' : Nat → Prop) (β : Nat → Loc) (Z : Nat → Prop) (hp : Nat → Option Blk) (w : World) (s : Sem Next) (hp' : Nat → Option Blk) (v : AV) : Prop :=
 ∃ nx val w' β' Z', s.run P w = .ok nx w' ∧ (nx = .value val ∨ (nx = .skip ∧ val = undef)) ∧ Left E B Fr' β Z hp w β' Z' hp' w' ∧ RA β' Z' w' v val
theorem SatH.weaken (h : SatH E B Fr β Z hp w) (hf : ∀ n, Fr' n → Fr n) : SatH E B Fr' β Z hp w := ⟨h.rb, h.own, h.inj, h.zlt, fun n hn => h.fresh n (hf n hn), h.gl⟩
theorem Left.same (h : SatH E B Fr β Z hp w) (hf : ∀ n, Fr' n → Fr n) : Left E B Fr' β Z hp w β Z hp w := ⟨h.weaken hf, Evo.refl _ _ _, Ext.refl _, fun _ h => .inl h, fun _ h => .inl h⟩
theorem OpOk.val (h : SatH E B Fr β Z hp w) {nm : Nat} {s : Sem Value} {v : AV} (hs : ∃ u, s.run P w = .ok u w ∧ RA β Z w v u) : OpOk P E B (fun n => Fr n ∧ n ≠ nm) β Z hp w (do pure (.value (← s))) hp v := by
 obtain ⟨u, h1, h2⟩ := hs
 exact ⟨.value u, u, w, β, Z, by simp [h1], .inl rfl, Left.same h (fun n hn => hn.1), h2⟩
theorem OpOk.new (h : SatH E B Fr β Z hp w) (hB : B ≤ w.heap.size) {nm : Nat} (hf : Fr nm) {s : Sem Value} {blk : Blk} {v : Nat → AV} (hs : NewOk P β Z w s blk v) :
   OpOk P E B (fun n => Fr n ∧ n ≠ nm) β Z hp w (do pure (.value (← s))) (upd hp nm (some blk)) (v nm) := by
 obtain ⟨u, cs, e, ln, h1, h2, h3⟩ := hs
 refine ⟨.value u, u, _, _, Z, by simp [h1], .inl rfl, h.mk_block hB hf h2, h3 _ _ _ nm (upd_same _ _ _) ⟨cs, e, heap_alloc_new w _, rfl⟩⟩
theorem parts_ok (hg : GlOk E Z w) {tm : Nat → AV} {a : Act} (ht : ∀ t, RA β Z w (tm t) (a.tmps.getD t undef)) : ∀ (l : List (Nat × Operand)), RParts β Z w (l.map fun p => (p.1, evalO E tm p.2)) (l.map fun (i, x) => (i, a.eval x))
 | [] => trivial
 | (i, x) :: l => ⟨rfl, eval_ok hg ht x, parts_ok hg ht l⟩
theorem RL.get : ∀ {l : List TV} {r : List Value}, RL β Z w l r → r.length = l.length ∧ ∀ (i : Nat) (x : TV), l[i]? = some x → ∃ u, r[i]? = some u ∧ RT β Z w x u
 | [], [], _ => ⟨rfl, fun i x h => by simp at h⟩
 | x :: l, v :: r, h => by
   obtain ⟨h1, h2⟩ := RL.get h.2
   refine ⟨by simp [h1], fun i y hy => ?_⟩
   cases i with
   | zero => simp at hy; subst hy; exact ⟨v, rfl, h.1⟩
   | succ i => simp at hy; simpa using h2 i y hy
 | [], _ :: _, h => h.elim
 | _ :: _, [], h => by cases ‹TV› <;> exact h.elim
theorem func_ok (hg : GlOk E Z w) {tm : Nat → AV} {a : Act} (ht : ∀ t, RA β Z w (tm t) (a.tmps.getD t undef)) {fn : Fn} {first captured : Array Operand} {c : List Prop} {y : AV} (h : planFunc E tm fn first.toList captured.toList = .ok c y) : RA β Z w y (.func fn (first.map a.eval) (captured.map a.eval)) := by
 unfold planFunc Plan.cell at h
 split at h
 · rename_i f l cs hl hcs
   obtain ⟨hall, h⟩ := need_ok h (by simp)
   simp at h; obtain ⟨rfl, rfl⟩ := h
   have hcap : ∀ t ∈ cs, ∃ q, t = .c q := fun t ht => by
     have := List.all_eq_true.1 hall t ht
     cases t with
     | c q => exact ⟨q, rfl⟩
     | a n g => simp [isC] at this
   obtain ⟨a1, a2⟩ := RL.get (args_ok hg ht hl)
   obtain ⟨b1, b2⟩ := RL.get (args_ok hg ht hcs)
   refine ⟨first.map a.eval, captured.map a.eval, rfl, by simpa using a1, by simpa using b1, fun i hi => ?_, fun i s hs => ?_⟩
   · have hq : cs[i]? = some cs[i] := by simp [hi]
     obtain ⟨u, hu, hr⟩ := b2 i _ hq
     obtain ⟨q, hqq⟩ := hcap cs[i] (by simp)
     refine ⟨u, by simpa using hu, ?_⟩
     have : cs[i]?.getD (.c .any) = .c q := by simp [hi, hqq]
     rw [hqq] at hr
     simp only [this]
     exact hr
   · simp only [List.getElem?_map, Option.map_eq_some_iff] at hs
     obtain ⟨x, hx, rfl⟩ := hs
     obtain ⟨u, hu, hr⟩ := a2 i x hx
     refine ⟨u, by simpa using hu, ?_⟩
     have hgd : l[i]?.getD (.c .any) = x := by simp [hx]
     simp only [hgd]
     cases x with
     | c q => exact hr
     | a n g => exact hr
 · simp at h
theorem append_ok (hT : TabOk P E) (h : SatH E B Fr β Z hp w) (hB : B ≤ w.heap.size) {nm : Nat} (hf : Fr nm) {hpS : Nat → Option Blk} (hsub : ∀ n blk, hpS n = some blk → hp n = some blk)
   {t ty : Nat} {ti : TI} (ht : E.ty t = some ti) {x y : AV} {vx vy : Value} (hx : RA β Z w x vx) (hy : RA β Z w y vy) {hp' : Nat → Option Blk} {v : AV}
   (hc : AllP (planAppend E hpS ti x y).conds) (he : (planAppend E hpS ti x y).eff nm hp = some (hp', v)) :
   OpOk P E B (fun n => Fr n ∧ n ≠ nm) β Z hp w (do pure (.value (← Builtin.append_ #[t, t] ty #[vx, vy]))) hp' v := by
 obtain ⟨i, d, z, hF⟩ := tabTI_spec (hT t ti ht).1
 have hrbS : ∀ n blk, hpS n = some blk → RB β Z w (β n) blk := fun n blk hn => h.rb n blk (hsub n blk hn)
 generalize hp0 : planAppend E hpS ti x y = p at hc he
 unfold planAppend at hp0
 split at hp0
 · rename_i e hk
   obtain rfl := hF.slice hk
   split at hp0
   · rename_i te hte
     obtain ⟨i2, d2, z2, hF2⟩ := tabTI_spec (hT e te hte).1
     split at hp0
     · rename_i sy ly gy hrow
       obtain ⟨a, cap, rfl, hcell⟩ := rowOf_ok hrbS hy hrow
       split at hp0
       ·
         obtain rfl : vx = .slice none 0 0 := hx
         cases hb : (Nat.beq sy te.size && Nat.ble 1 te.size) with
         | false => rw [hb] at hp0; subst hp0; simp [need, Plan.eff] at he
         | true =>
           rw [hb] at hp0; subst hp0
           simp only [Bool.and_eq_true] at hb
           obtain rfl : sy = te.size := Nat.eq_of_beq_eq_true hb.1
           have hsz : 0 < te.size := Nat.le_of_ble_eq_true hb.2
           simp only [need, Plan.eff, Option.some.injEq, Prod.mk.injEq] at he
           obtain ⟨rfl, rfl⟩ := he
           obtain ⟨c1, c2, _⟩ := hc
           have ha := append_core (P := P) (Z := Z) (w := w) (ty := ty) hF.und hF2 hsz (v := .slice none 0 0) (n := 0) (gx := gy) (old := none) (.inl ⟨rfl, rfl, rfl⟩) (a := a) (m := ly) (c := cap) (gy := gy) hcell (by rw [Nat.zero_add]; exact c1) (by rw [Nat.zero_add]; exact c2)
           have hj : joinRow 0 gy gy = gy := by funext i; rw [joinRow_ge (Nat.zero_le _), Nat.sub_zero]
           rw [Nat.zero_add, hj] at ha
           obtain ⟨u, w', l, hr, hl, hv⟩ := h.app hB hf (drop := none) ha (fun b hb => by simp at hb)
           exact ⟨.value u, u, w', _, Z, by simp [hr], .inl rfl, hl, hv⟩
       · rename_i n size len
         have hx' : ROs w (β n) size len vx := hx
         split at hp0
         · rename_i e' size' len' gx hn
           cases hb : (Nat.beq e' e && Nat.beq size te.size && Nat.beq size' te.size && Nat.beq sy te.size && Nat.ble 1 te.size) with
           | false => rw [hb] at hp0; subst hp0; simp [need, Plan.eff] at he
           | true =>
             rw [hb] at hp0; subst hp0
             simp only [Bool.and_eq_true] at hb
             obtain ⟨⟨⟨⟨b1, b2⟩, b3⟩, b4⟩, b5⟩ := hb
             obtain rfl : e' = e := Nat.eq_of_beq_eq_true b1
             obtain rfl : size = te.size := Nat.eq_of_beq_eq_true b2
             obtain rfl : size' = te.size := Nat.eq_of_beq_eq_true b3
             obtain rfl : sy = te.size := Nat.eq_of_beq_eq_true b4
             have hsz : 0 < te.size := Nat.le_of_ble_eq_true b5
             simp only [need, Plan.eff, Option.some.injEq, Prod.mk.injEq] at he
             obtain ⟨rfl, rfl⟩ := he
             obtain ⟨c1, c2, _⟩ := hc
             have hrb := hrbS n _ hn
             cases hβ : β n with
             | no => rw [hβ] at hx'; exact hx'.elim
             | virt =>
               rw [hβ] at hx' hrb
               obtain ⟨rfl, rfl⟩ := hx'
               have h0 : len' = 0 := hrb
               subst h0
               have ha := append_core (P := P) (Z := Z) (w := w) (ty := ty) hF.und hF2 hsz (v := .slice none 0 0) (n := 0) (gx := gx) (old := none) (.inl ⟨rfl, rfl, rfl⟩) (a := a) (m := ly) (c := cap) (gy := gy) hcell c1 c2
               obtain ⟨u, w', l, hr, hl, hv⟩ := h.app hB hf (drop := some n) ha (fun b hb => by simp at hb)
               exact ⟨.value u, u, w', _, Z, by simp [hr], .inl rfl, hl, hv⟩
             | «at» b ln =>
               rw [hβ] at hx' hrb
               obtain ⟨rfl, capx, rfl, q1, q2, cs0, e0, q3, q4⟩ := hx'
               obtain ⟨rfl, cs, g1, g2, g3⟩ := hrb
               rw [q3] at g1; injection g1 with g1; injection g1 with g1 g1' _; subst g1; subst g1'
               have ha := append_core (P := P) (Z := Z) (w := w) (ty := ty) hF.und hF2 hsz (v := .slice (some ⟨b, 0, none⟩) ln capx) (n := ln) (gx := gx) (old := some b) (.inr ⟨b, capx, cs0, rfl, rfl, q3, q1, q2, q4, g3⟩) (a := a) (m := ly) (c := cap) (gy := gy) hcell c1 c2
               obtain ⟨u, w', l, hr, hl, hv⟩ := h.app hB hf (drop := some n) ha (fun b' hb' => by injection hb' with e1; subst e1; exact ⟨n, _, ln, rfl, hsub n _ hn, hβ⟩)
               exact ⟨.value u, u, w', _, Z, by simp [hr], .inl rfl, hl, hv⟩
         · subst hp0; simp [Plan.eff] at he
       · rename_i size len gx
         cases hb : (Nat.beq size te.size && Nat.beq sy te.size && Nat.ble 1 te.size && Nat.ble 1 ly) with
         | false => rw [hb] at hp0; subst hp0; simp [need, Plan.eff] at he
         | true =>
           rw [hb] at hp0; subst hp0
           simp only [Bool.and_eq_true] at hb
           obtain ⟨⟨⟨b1, b2⟩, b3⟩, b4⟩ := hb
           obtain rfl : size = te.size := Nat.eq_of_beq_eq_true b1
           obtain rfl : sy = te.size := Nat.eq_of_beq_eq_true b2
           have hsz : 0 < te.size := Nat.le_of_ble_eq_true b3
           have hly : 0 < ly := Nat.le_of_ble_eq_true b4
           simp only [need, Plan.eff, Option.some.injEq, Prod.mk.injEq] at he
           obtain ⟨rfl, rfl⟩ := he
           obtain ⟨c1, c2, _⟩ := hc
           obtain ⟨ax, rfl, hxc⟩ := hx
           have ha := append_exact (P := P) (Z := Z) (w := w) (ty := ty) hF.und hF2 hsz (a0 := ax) (n := len) (gx := gx) (fun hp => let ⟨b, o, h1, _, h3⟩ := hxc hp; ⟨b, o, h1, h3⟩) hly (a := a) (m := ly) (c := cap) (gy := gy) hcell c1 c2
           obtain ⟨u, w', l, hr, hl, hv⟩ := h.app hB hf (drop := none) ha (fun b hb => by simp at hb)
           exact ⟨.value u, u, w', _, Z, by simp [hr], .inl rfl, hl, hv⟩
       · subst hp0; simp [Plan.eff] at he
     · split at hp0
       · obtain rfl : vy = .slice none 0 0 := hy
         split at hp0
         · obtain rfl : vx = .slice none 0 0 := hx
           subst hp0
           simp only [Plan.cell, Plan.eff, Option.some.injEq, Prod.mk.injEq] at he
           obtain ⟨rfl, rfl⟩ := he
           refine OpOk.val h ⟨.slice none 0 0, ?_, rfl⟩
           simp [Builtin.append_, hF.run_und, hF2.run_size, Builtin.lenOf, Builtin.firstCells]
         · rename_i n size len
           have hx' : ROs w (β n) size len vx := hx
           subst hp0
           simp only [Plan.cell, Plan.eff, Option.some.injEq, Prod.mk.injEq] at he
           obtain ⟨rfl, rfl⟩ := he
           refine OpOk.val h ⟨vx, ?_, hx⟩
           cases hβ : β n with
           | no => rw [hβ] at hx'; exact hx'.elim
           | virt =>
             rw [hβ] at hx'
             obtain ⟨rfl, rfl⟩ := hx'
             simp [Builtin.append_, hF.run_und, hF2.run_size, Builtin.lenOf, Builtin.firstCells]
           | «at» b ln =>
             rw [hβ] at hx'
             obtain ⟨rfl, capx, rfl, q1, _⟩ := hx'
             simp [Builtin.append_, hF.run_und, hF2.run_size, Builtin.lenOf, Builtin.firstCells, q1, storeCells]
         · subst hp0; simp [Plan.eff] at he
       · subst hp0; simp [Plan.eff] at he
   · subst hp0; simp [Plan.eff] at he
 · subst hp0; simp [Plan.eff] at he
def RO (β : Nat → Loc) (Z : Nat → Prop) (w : World) : Option AV → Option Value → Prop
 | none, none => True
 | some x, some v => RA β Z w x v
 | _, _ => False
theorem bndHi_some {len : Nat} {x : AV} {mx : Option AV} {h : Int} (e : bndHi len (some x) mx = some h) : ∃ k, x = .t (.c (.int k h)) := by
 unfold bndHi at e
 split at e
 · simp_all
 · simp_all
 · simp_all
theorem bounds_ok {len cap : Nat} {isS : Bool} {lo hi mx : Option AV} {vlo vhi vmx : Option Value} (hlo : RO β Z w lo vlo) (hhi : RO β Z w hi vhi) (hmx : RO β Z w mx vmx) (hlc : len ≤ cap)
   {l h : Int} {m : Option Int} (b1 : bndLo lo = some l) (b2 : bndHi len hi mx = some h) (b3 : bndMx mx = some m) (hc : AllP (bndConds l h len m)) :
   ∃ mm : Nat, (Instr.sliceBounds isS len cap vlo vhi vmx).run P w = .ok (l.toNat, h.toNat, mm) w ∧ l.toNat ≤ h.toNat ∧ h.toNat ≤ mm ∧ h.toNat ≤ len ∧ mm ≤ cap ∧ ∀ q, m = some q → mm = q.toNat := by
 have hl : ∃ q, vlo = q ∧ ((q = none ∧ l = 0) ∨ ∃ k, q = some (.int k l)) := by
   refine ⟨vlo, rfl, ?_⟩
   cases lo with
   | none => cases vlo with
     | none => simp [bndLo] at b1; exact .inl ⟨rfl, b1.symm⟩
     | some v => exact hlo.elim
   | some x => cases vlo with
     | none => exact hlo.elim
     | some v =>
       unfold bndLo at b1
       split at b1
       · rename_i he; simp at he
       · rename_i k n he
         injection b1 with b1; subst b1; injection he with he; subst he
         exact .inr ⟨k, by rw [int_of (β := β) (Z := Z) (w := w) hlo]⟩
       · simp at b1
 have hm : ∃ q, vmx = q ∧ ((q = none ∧ m = none ∧ mx = none) ∨ ∃ k n, q = some (.int k n) ∧ m = some n) := by
   refine ⟨vmx, rfl, ?_⟩
   cases mx with
   | none => cases vmx with
     | none => simp [bndMx] at b3; exact .inl ⟨rfl, b3.symm, rfl⟩
     | some v => exact hmx.elim
   | some x => cases vmx with
     | none => exact hmx.elim
     | some v =>
       unfold bndMx at b3
       split at b3
       · rename_i he; simp at he
       · rename_i k n he
         injection b3 with b3; injection he with he; subst he
         exact .inr ⟨k, n, by rw [int_of (β := β) (Z := Z) (w := w) hmx], b3.symm⟩
       · simp at b3
 have hh : (vhi = none ∧ h = len ∧ mx = none) ∨ ∃ k, vhi = some (.int k h) := by
   cases hi with
   | none => cases vhi with
     | none =>
       cases mx with
       | none => simp [bndHi] at b2; exact .inl ⟨rfl, b2.symm, rfl⟩
       | some x => simp [bndHi] at b2
     | some v => exact hhi.elim
   | some x => cases vhi with
     | none => exact hhi.elim
     | some v =>
       obtain ⟨k, rfl⟩ := bndHi_some b2
       exact .inr ⟨k, by rw [int_of (β := β) (Z := Z) (w := w) hhi]⟩
 obtain ⟨_, rfl, hl⟩ := hl
 obtain ⟨_, rfl, hm⟩ := hm
 rcases hm with ⟨rfl, rfl, rfl⟩ | ⟨km, n, rfl, rfl⟩
 · obtain ⟨c1, c2, c3, _⟩ := hc
   refine ⟨cap, ?_, by omega, by omega, by omega, Nat.le_refl _, fun q h => (by cases h)⟩
   have hh0 : 0 ≤ h := by omega
   obtain ⟨h', rfl⟩ := Int.eq_ofNat_of_zero_le hh0
   obtain ⟨l', rfl⟩ := Int.eq_ofNat_of_zero_le c1
   have hcap : h' ≤ cap := by omega
   have hlh : l' ≤ h' := by omega
   have hl0 : ∀ x : Nat, (x : Int) = 0 → x = 0 := fun x hx => by omega
   rcases hh with ⟨rfl, e, _⟩ | ⟨kh, rfl⟩
   · have e' : h' = len := by omega
     subst e'
     rcases hl with ⟨rfl, e2⟩ | ⟨kl, rfl⟩
     · have := hl0 _ e2; subst this; simp [Instr.sliceBounds]
     · simp [Instr.sliceBounds, Instr.sliceBound, asIntOf, hlh]
   · rcases hl with ⟨rfl, e2⟩ | ⟨kl, rfl⟩
     · have := hl0 _ e2; subst this; simp [Instr.sliceBounds, Instr.sliceBound, asIntOf, hcap]
     · simp [Instr.sliceBounds, Instr.sliceBound, asIntOf, hcap, hlh]
 · obtain ⟨c1, c2, c3, c4, _⟩ := hc
   refine ⟨n.toNat, ?_, by omega, by omega, by omega, by omega, fun q h => (by injection h with h; rw [h])⟩
   have hh0 : 0 ≤ h := by omega
   have hn0 : 0 ≤ n := by omega
   obtain ⟨h', rfl⟩ := Int.eq_ofNat_of_zero_le hh0
   obtain ⟨l', rfl⟩ := Int.eq_ofNat_of_zero_le c1
   obtain ⟨n', rfl⟩ := Int.eq_ofNat_of_zero_le hn0
   have hncap : n' ≤ cap := by omega
   have hlh : l' ≤ h' := by omega
   have hhn : h' ≤ n' := by omega
   have hl0 : ∀ x : Nat, (x : Int) = 0 → x = 0 := fun x hx => by omega
   rcases hh with ⟨rfl, _, e⟩ | ⟨kh, rfl⟩
   · subst e; simp [bndMx] at b3
   · rcases hl with ⟨rfl, e2⟩ | ⟨kl, rfl⟩
     · have := hl0 _ e2; subst this; simp [Instr.sliceBounds, Instr.sliceBound, asIntOf, hncap, hhn]
     · simp [Instr.sliceBounds, Instr.sliceBound, asIntOf, hncap, hhn, hlh]
theorem cutRow_eq {lo : Option AV} {l : Int} (hl : bndLo lo = some l) (get : Nat → Nat → CV) (i : Nat) : cutRow lo l get i = get (i + l.toNat) := by
 cases lo with
 | none => simp [bndLo] at hl; subst hl; rfl
 | some x => rfl
theorem cut_ok {a : Option Addr} {len size : Nat} {get : Nat → Nat → CV} (hg : 0 < len → ∃ b o, a = some ⟨b, o, none⟩ ∧ Z b ∧ ∀ i, i < len → ∀ j, j < size → ∃ u, w.cell? ⟨b, o + (i * size + j), none⟩ = some u ∧ RP Z w (get i j) u)
   {lo : Option AV} {l : Int} (hl : bndLo lo = some l) {h mm : Nat} (h1 : l.toNat ≤ h) (h2 : h ≤ mm) (h3 : h ≤ len) :
   RP Z w (.vs size (h - l.toNat) (cutRow lo l get)) (.slice (if mm = l.toNat then a else a.map (·.add (l.toNat * size))) (h - l.toNat) (mm - l.toNat)) := by
 refine ⟨_, _, rfl, by omega, fun hpos => ?_⟩
 obtain ⟨b, o, rfl, hz, hcell⟩ := hg (by omega)
 refine ⟨b, o + l.toNat * size, ?_, hz, fun i hi j hj => ?_⟩
 · rw [if_neg (by omega)]; simp [addr_add]
 · obtain ⟨u, hu, hr⟩ := hcell (i + l.toNat) (by omega) j hj
   refine ⟨u, ?_, by rw [cutRow_eq hl]; exact hr⟩
   rw [← hu, Nat.add_mul]
   congr 2; omega
theorem cut_exact {a : Option Addr} {h l mm size : Nat} {get : Nat → Nat → CV} (hc : RP Z w (.vs size (h - l) get) (.slice a (h - l) (mm - l))) (e : mm = h) : RP Z w (.vx size (h - l) get) (.slice a (h - l) (mm - l)) := by
 subst e
 obtain ⟨a', cap, e, _, hg⟩ := hc
 injection e with e1 e2 e3
 subst e1
 exact ⟨_, rfl, hg⟩
theorem slice_ok (hT : TabOk P E) (h : SatH E B Fr β Z hp w) {nm : Nat} {hpS : Nat → Option Blk} (hsub : ∀ n blk, hpS n = some blk → hp n = some blk)
   {t : Nat} {ti : TI} (ht : E.ty t = some ti) {x : AV} {lo hi mx : Option AV} {vx : Value} {vlo vhi vmx : Option Value} (hx : RA β Z w x vx) (hlo : RO β Z w lo vlo) (hhi : RO β Z w hi vhi) (hmx : RO β Z w mx vmx)
   {hp' : Nat → Option Blk} {v : AV} (hc : AllP (planSlice E hpS ti x lo hi mx).conds) (he : (planSlice E hpS ti x lo hi mx).eff nm hp = some (hp', v)) :
   OpOk P E B (fun n => Fr n ∧ n ≠ nm) β Z hp w (do pure (.value (← Instr.sliceAt t vx vlo vhi vmx))) hp' v := by
 obtain ⟨i, d, z, hF⟩ := tabTI_spec (hT t ti ht).1
 generalize hp0 : planSlice E hpS ti x lo hi mx = p at hc he
 unfold planSlice at hp0
 split at hp0
 · rename_i e size len get hk
   obtain rfl := hF.slice hk
   split at hp0
   · rename_i l hh m te e1 e2 e3 hte
     obtain ⟨i2, d2, z2, hF2⟩ := tabTI_spec (hT e te hte).1
     cases hb : Nat.beq te.size size with
     | false => rw [hb] at hp0; subst hp0; simp [need, Plan.eff] at he
     | true =>
       rw [hb] at hp0
       obtain rfl : te.size = size := Nat.eq_of_beq_eq_true hb
       simp only [need] at hp0
       obtain ⟨a, cap, rfl, hlc, hg⟩ := hx
       split at hp0
       · rename_i q _
         subst hp0
         simp only [Plan.cell, Plan.eff, Option.some.injEq, Prod.mk.injEq] at he
         obtain ⟨rfl, rfl⟩ := he
         obtain ⟨hq, hc⟩ := hc
         obtain ⟨mm, hr, q1, q2, q3, q4, q5⟩ := bounds_ok (P := P) (isS := true) hlo hhi hmx hlc e1 e2 e3 hc
         have hmm : mm = hh.toNat := by rw [q5 _ rfl, ← hq]
         refine OpOk.val h ⟨_, ?_, RC.of_RP (β := β) (x := .vx te.size (hh.toNat - l.toNat) (cutRow lo l get)) (cut_exact (cut_ok hg e1 q1 q2 q3) hmm)⟩
         simp [Instr.sliceAt, Instr.slice, hF.run_und, hr, hF2.run_size]
       · subst hp0
         simp only [Plan.cell, Plan.eff, Option.some.injEq, Prod.mk.injEq] at he
         obtain ⟨rfl, rfl⟩ := he
         obtain ⟨mm, hr, q1, q2, q3, q4⟩ := bounds_ok (P := P) (isS := true) hlo hhi hmx hlc e1 e2 e3 hc
         refine OpOk.val h ⟨_, ?_, RC.of_RP (cut_ok hg e1 q1 q2 q3)⟩
         simp [Instr.sliceAt, Instr.slice, hF.run_und, hr, hF2.run_size]
   · subst hp0; simp [Plan.eff] at he
 · rename_i e n sz len0 hk
   obtain rfl := hF.slice hk
   have hx' : ROs w (β n) sz len0 vx := hx
   split at hp0
   · rename_i e0 size len get hn
     split at hp0
     · rename_i l hh m te e1 e2 e3 hte
       obtain ⟨i2, d2, z2, hF2⟩ := tabTI_spec (hT e te hte).1
       cases hb : (Nat.beq te.size size && Nat.beq sz size) with
       | false => rw [hb] at hp0; subst hp0; simp [need, Plan.eff] at he
       | true =>
         rw [hb] at hp0; subst hp0
         simp only [Bool.and_eq_true] at hb
         obtain rfl : te.size = size := Nat.eq_of_beq_eq_true hb.1
         obtain rfl : sz = te.size := Nat.eq_of_beq_eq_true hb.2
         simp only [need, Plan.eff, Option.some.injEq, Prod.mk.injEq] at he
         obtain ⟨rfl, rfl⟩ := he
         have hnp := hsub n _ hn
         have hrb := h.rb n _ hnp
         have hfz := h.freeze n
         have main : ∀ a cap, vx = .slice a len cap → len ≤ cap → (0 < len → ∃ b o, a = some ⟨b, o, none⟩ ∧ (Z b ∨ (∃ blk ln, hp n = some blk ∧ β n = .at b ln)) ∧ ∀ i, i < len → ∀ j, j < te.size → ∃ u, w.cell? ⟨b, o + (i * te.size + j), none⟩ = some u ∧ RP Z w (get i j) u) →
             OpOk P E B (fun n => Fr n ∧ n ≠ nm) β Z hp w (do pure (.value (← Instr.sliceAt t vx vlo vhi vmx))) (upd hp n none) (.t (.c (.vs te.size (hh.toNat - l.toNat) (cutRow lo l get)))) := by
           intro a cap ev hlc hg
           subst ev
           obtain ⟨mm, hr, q1, q2, q3, q4⟩ := bounds_ok (P := P) (isS := true) hlo hhi hmx hlc e1 e2 e3 hc
           refine ⟨_, _, w, β, _, ?_, .inl rfl, ⟨hfz.sat.weaken (fun n hn => hn.1), hfz.ev, hfz.ext, hfz.own, hfz.zown⟩, RC.of_RP (cut_ok (a := a) (len := len) (get := get) (fun hpos => ?_) e1 q1 q2 q3)⟩
           · simp [Instr.sliceAt, Instr.slice, hF.run_und, hr, hF2.run_size]
           · obtain ⟨b, o, h1, h2, h3⟩ := hg hpos
             exact ⟨b, o, h1, h2, fun i hi j hj => let ⟨u, hu, hr⟩ := h3 i hi j hj; ⟨u, hu, RP.mono hfz.ev h.calm hr⟩⟩
         cases hβ : β n with
         | no => rw [hβ] at hx'; exact hx'.elim
         | virt =>
           rw [hβ] at hx' hrb
           obtain ⟨rfl, rfl⟩ := hx'
           have h0 : len = 0 := hrb
           subst h0
           exact main none 0 rfl (Nat.le_refl _) (fun h => absurd h (Nat.lt_irrefl 0))
         | «at» b ln =>
           rw [hβ] at hx' hrb
           obtain ⟨rfl, cap, rfl, q1, _⟩ := hx'
           obtain ⟨rfl, cs, g1, g2, g3⟩ := hrb
           refine main _ cap rfl q1 (fun _ => ⟨b, 0, rfl, .inr ⟨_, _, hnp, hβ⟩, fun i hi j hj => ?_⟩)
           obtain ⟨u, hu, hr⟩ := g3 i hi j hj
           exact ⟨u, by rw [cell_of_heap g1, Nat.zero_add]; exact hu, hr⟩
     · subst hp0; simp [Plan.eff] at he
   · subst hp0; simp [Plan.eff] at he
 · rename_i len e n hk
   obtain ⟨rfl, hgd⟩ := hF.array hk
   obtain ⟨b, ln, hb0, rfl⟩ := hx
   split at hp0
   · rename_i k get hn
     split at hp0
     · rename_i l hh m te e1 e2 e3 hte
       obtain ⟨i2, d2, z2, hF2⟩ := tabTI_spec (hT e te hte).1
       cases hb : (Nat.ble (len * te.size) k && allPure get k) with
       | false => rw [hb] at hp0; subst hp0; simp [need, Plan.eff] at he
       | true =>
         rw [hb] at hp0; subst hp0
         simp only [Bool.and_eq_true] at hb
         have hle : len * te.size ≤ k := Nat.le_of_ble_eq_true hb.1
         simp only [need, Plan.eff, Option.some.injEq, Prod.mk.injEq] at he
         obtain ⟨rfl, rfl⟩ := he
         have hnp := hsub n _ hn
         have hrb := h.rb n _ hnp
         have hfz := h.freeze n
         rw [hb0] at hrb
         obtain ⟨cs, e', g1, g2, g3⟩ := hrb
         obtain ⟨mm, hr, q1, q2, q3, q4⟩ := bounds_ok (P := P) (isS := false) hlo hhi hmx (Nat.le_refl len) e1 e2 e3 hc
         refine ⟨_, _, w, β, _, ?_, .inl rfl, ⟨hfz.sat.weaken (fun n hn => hn.1), hfz.ev, hfz.ext, hfz.own, hfz.zown⟩, RC.of_RP (cut_ok (a := some ⟨b, 0, none⟩) (len := len) (get := fun i j => get (i * te.size + j)) (fun _ => ?_) e1 q1 q2 q3)⟩
         · simp [Instr.sliceAt, hF.run_und, hr, hF2.run_size, Instr.sureAddr]
           split <;> rfl
         · refine ⟨b, 0, rfl, .inr ⟨_, _, hnp, hb0⟩, fun i hi j hj => ?_⟩
           have hij := row_bound hi hj
           obtain ⟨u, hu, hr⟩ := g3 (i * te.size + j) (by omega)
           exact ⟨u, by rw [cell_of_heap g1, Nat.zero_add]; exact hu, RP.mono hfz.ev h.calm (RP.of_RC (allPure_get hb.2 _ (by omega)) hr)⟩
     · subst hp0; simp [Plan.eff] at he
   · subst hp0; simp [Plan.eff] at he
 · subst hp0; simp [Plan.eff] at he
end
end Go.Sx
namespace Go.Sx
open Go.Maps (Keyed)
structure MapFacts (P : Program) (t : TypeId) (T : MapT) : Prop where
 und : P.underlying t = some (.map T.k T.v)
 keyed : Keyed P T.k
 lit : ∀ ks, KeyIs T ks → ∃ l, keyOf P T.k (keyV T.agg ks) = some l
 zero : ∀ w, (zeroValue T.v).run P w = .ok (valV T.vb 0) w
 one : T.agg = false → T.n = 1
def MapsOk (P : Program) (E : Env) : Prop := ∀ t T, E.mps t = some T → MapFacts P t T
section
variable {P : Program} {E : Env} {B : Nat} {Fr : Nat → Prop} {β : Nat → Loc} {Z : Nat → Prop} {hp : Nat → Option Blk} {w : World}
def okBad : Plan → Prop
 | .ok _ _ => True
 | .bad => True
 | _ => False
theorem okBad_need {b : Bool} {p : Plan} (h : okBad p) : okBad (need b p) := by cases b <;> trivial
theorem keyV_inj {T : MapT} (h1 : T.agg = false → T.n = 1) {a b : List Int} (ha : KeyIs T a) (hb : KeyIs T b) (h : keyV T.agg a = keyV T.agg b) : a = b := by
 cases hg : T.agg with
 | true =>
   rw [hg] at h
   simp only [keyV, Value.agg.injEq] at h
   have h2 : a.map (Value.int .i64) = b.map (Value.int .i64) := by simpa using h
   exact (List.map_inj_right (fun x y e => by injection e)).1 h2
 | false =>
   rw [hg] at h
   have e1 := h1 hg
   obtain ⟨la, _⟩ := ha
   obtain ⟨lb, _⟩ := hb
   rw [e1] at la lb
   match a, b, la, lb with
   | [x], [y], _, _ => simp [keyV] at h; rw [h]
theorem keyCV_ok {x : CV} {a : Int} (h : keyCV x = some a) : x = .int .i64 a := by
 unfold keyCV at h
 split at h
 · injection h with h; subst h; rfl
 · cases h
theorem keyFrom_ok {get : Nat → CV} : ∀ {n j : Nat} {l : List Int}, keyFrom get j n = some l → l.length = n ∧ ∀ i, i < n → ∃ a, l[i]? = some a ∧ get (j + i) = .int .i64 a
 | 0, j, l, h => by
   simp only [keyFrom, Option.some.injEq] at h
   subst h
   exact ⟨rfl, fun i hi => absurd hi (by omega)⟩
 | n + 1, j, l, h => by
   unfold keyFrom at h
   split at h
   · rename_i a l' h1 h2
     injection h with h
     subst h
     obtain ⟨e1, e2⟩ := keyFrom_ok h2
     refine ⟨by simp [e1], fun i hi => ?_⟩
     cases i with
     | zero => exact ⟨a, rfl, keyCV_ok h1⟩
     | succ i =>
       obtain ⟨x, hx1, hx2⟩ := e2 i (by omega)
       exact ⟨x, by simpa using hx1, by rw [← hx2]; congr 1; omega⟩
   · cases h
theorem keyOfAV_ok {T : MapT} {x : AV} {ks : List Int} (h : keyOfAV T x = some ks) {v : Value} (hv : RA β Z w x v) : v = keyV T.agg ks ∧ ks.length = T.n := by
 unfold keyOfAV at h
 split at h
 · split at h
   · rename_i c h1 h2 h3
     injection h with h
     subst h
     obtain rfl := keyCV_ok h3
     obtain rfl := int_of hv
     exact ⟨by rw [h1]; rfl, (Nat.eq_of_beq_eq_true h2).symm⟩
   · cases h
 · rename_i n get
   split at h
   · rename_i hag hn
     obtain rfl := Nat.eq_of_beq_eq_true hn
     obtain ⟨e1, e2⟩ := keyFrom_ok h
     obtain ⟨cs, rfl, hsz, hcs⟩ := hv
     refine ⟨?_, e1⟩
     rw [hag]
     simp only [keyV, Value.agg.injEq]
     apply Array.ext'
     apply List.ext_getElem?
     intro i
     simp only [List.getElem?_map, Array.getElem?_toList]
     by_cases hi : i < T.n
     · obtain ⟨a, h1, h2⟩ := e2 i hi
       obtain ⟨u, hu, hr⟩ := hcs i hi
       rw [Nat.zero_add] at h2
       rw [h2] at hr
       have : u = .int .i64 a := hr
       rw [hu, h1, this]; rfl
     · rw [Array.getElem?_eq_none (by omega), List.getElem?_eq_none (by omega)]; rfl
   · cases h
 · cases h
theorem inRs_ok : ∀ {ks : List Int}, AllP (inRs ks) → ∀ a ∈ ks, inRange .i64 a
 | [], _, a, ha => by cases ha
 | x :: l, h, a, ha => by
   have h' : inRange .i64 x ∧ AllP (inRs l) := h
   rcases List.mem_cons.1 ha with rfl | ha
   · exact h'.1
   · exact inRs_ok h'.2 a ha
theorem valCV_ok {vb : Bool} {x : Option Int} : RC β Z w (valCV vb x) (valV vb (valOf x)) := by
 cases vb <;> rfl
theorem elemOf_ok {vb : Bool} {x : AV} {a : Int} (h : elemOf vb x = some a) {v : Value} (hv : RA β Z w x v) : v = valV vb a := by
 unfold elemOf at h
 split at h
 · cases vb with
   | true => cases h
   | false =>
     injection h with h
     subst h
     obtain rfl := int_of hv
     rfl
 · split at h
   · rename_i b hb
     injection h with h
     subst h
     rw [truth_ok hv hb]
     cases b <;> rfl
   · cases h
theorem RMap.find {T : MapT} {t : TypeId} (F : MapFacts P t T) {m : List Int → Option Int} {es : Array MapEntry} (h : RMap T m es) {ks : List Int} (hk : KeyIs T ks) (w : World) :
   (m ks = none ∧ (Instr.findKey T.k (keyV T.agg ks) es.toList).run P w = .ok none w ∧ ∀ e ∈ es.toList, e.key ≠ keyV T.agg ks) ∨
   ∃ j e x, m ks = some x ∧ (Instr.findKey T.k (keyV T.agg ks) es.toList).run P w = .ok (some (j, e.val)) w ∧ es[j]? = some e ∧ e.key = keyV T.agg ks ∧ e.val = valV T.vb x := by
 obtain ⟨l, hl⟩ := F.lit ks hk
 rcases F.keyed.find w hl es.toList (fun e he => by
   obtain ⟨ks', x, h1, h2, _⟩ := h.ent e he
   rw [h2]
   exact F.lit ks' h1) with ⟨h1, h2⟩ | ⟨j, e, h1, h2, h3⟩
 · refine .inl ⟨?_, h1, h2⟩
   cases hm : m ks with
   | none => rfl
   | some x =>
     obtain ⟨_, e, he, hek⟩ := h.all ks x hm
     exact absurd hek (h2 e he)
 · have he : e ∈ es.toList := List.mem_of_getElem? h2
   obtain ⟨ks', x, g1, g2, g3, g4⟩ := h.ent e he
   obtain rfl := keyV_inj F.one g1 hk (g2.symm.trans h3)
   exact .inr ⟨j, e, x, g3, h1, by simpa using h2, h3, g4⟩
theorem mapOf_ok (hrb : ∀ n blk, hp n = some blk → RB β Z w (β n) blk) {nm b ln : Nat} (hb : β nm = .at b ln) {T : MapT} {m : List Int → Option Int} (h : mapOf (hp nm) = some (T, m)) : ∃ es clock, w.heap[b]? = some (.map es clock) ∧ RMap T m es := by
 unfold mapOf at h
 split at h
 · rename_i T' m' hm
   injection h with h
   injection h with e1 e2
   subst e1; subst e2
   have hr := hrb nm _ hm
   rw [hb] at hr
   exact hr
 · rename_i T' m' c hm
   injection h with h
   injection h with e1 e2
   subst e1; subst e2
   have hr := hrb nm _ hm
   rw [hb] at hr
   obtain ⟨es, h1, h2⟩ := hr
   exact ⟨es, _, h1, h2.base⟩
 · cases h
theorem lookup_ok {t : TypeId} {T : MapT} (F : MapFacts P t T) (hrb : ∀ n blk, hp n = some blk → RB β Z w (β n) blk) {x k : AV} {xv kv : Value} (hx : RA β Z w x xv) (hk : RA β Z w k kv) {ok : Bool} {c : List Prop} {r : AV} (h : planLookup hp T x k ok = .ok c r) (hc : AllP c) :
   ∃ q, (Instr.lookup t xv kv ok).run P w = .ok q w ∧ RA β Z w r q := by
 unfold planLookup at h
 split at h
 · rename_i nm ks hks
   split at h
   · rename_i T' m hm
     obtain ⟨hT, hq⟩ := need_ok h (by simp)
     obtain rfl := sameT_eq hT
     injection hq with e1 e2
     subst e1
     obtain ⟨rfl, hlen⟩ := keyOfAV_ok hks hk
     have hK : KeyIs T ks := ⟨hlen, inRs_ok hc⟩
     obtain ⟨b, ln, hb, rfl⟩ := hx
     obtain ⟨es, clock, hes, hR⟩ := mapOf_ok hrb hb hm
     obtain ⟨l, hl⟩ := F.lit ks hK
     rcases hR.find F hK w with ⟨h1, h2, h3⟩ | ⟨j, e, x, h1, h2, h3, h4, h5⟩
     · refine ⟨if ok then .tuple #[valV T.vb 0, .bool false] else valV T.vb 0, by simp [Instr.lookup, run_underlying F.und, MapKept.run_getObj_map hes, F.keyed.check w _ hl, h2, F.zero w, Result.andThen], ?_⟩
       subst e2
       cases ok
       · simp only [h1]; exact valCV_ok (x := none)
       · simp only [h1]
         refine ⟨_, rfl, rfl, fun i y hy => ?_⟩
         match i, hy with
         | 0, hy => simp at hy; subst hy; exact ⟨_, rfl, valCV_ok (x := none)⟩
         | 1, hy => simp at hy; subst hy; exact ⟨_, rfl, rfl⟩
     · refine ⟨if ok then .tuple #[e.val, .bool true] else e.val, by simp [Instr.lookup, run_underlying F.und, MapKept.run_getObj_map hes, F.keyed.check w _ hl, h2, Result.andThen], ?_⟩
       subst e2
       rw [h5]
       cases ok
       · simp only [h1]; exact valCV_ok (x := some x)
       · simp only [h1]
         refine ⟨_, rfl, rfl, fun i y hy => ?_⟩
         match i, hy with
         | 0, hy => simp at hy; subst hy; exact ⟨_, rfl, valCV_ok (x := some x)⟩
         | 1, hy => simp at hy; subst hy; exact ⟨_, rfl, rfl⟩
   · cases h
 · cases h
theorem update_ok {t : TypeId} {T : MapT} (F : MapFacts P t T) (hrb : ∀ n blk, hp n = some blk → RB β Z w (β n) blk) {x k v : AV} {xv kv vv : Value} (hx : RA β Z w x xv) (hk : RA β Z w k kv) (hv : RA β Z w v vv) {c : List Prop} {nm : Nat} {blk : Blk}
   (h : planMapUpdate hp T x k v = .wr c nm blk) (hc : AllP c) :
   ∃ (b ln : Nat) (old : Blk) (es : Array MapEntry) (clock : Nat) (es' : Array MapEntry) (clock' : Nat), β nm = .at b ln ∧ hp nm = some old ∧ w.heap[b]? = some (.map es clock) ∧
     (Instr.mapUpdate t xv kv vv).run P w = .ok () { w with heap := w.heap.setIfInBounds b (.map es' clock') } ∧ ∃ m, blk = .mp T m ∧ RMap T m es' := by
 unfold planMapUpdate at h
 split at h
 · rename_i nm' ks a hks ha
   split at h
   · rename_i T' m hm
     obtain ⟨hT, hq⟩ := need_ok h (by simp)
     obtain rfl := sameT_eq hT
     injection hq with e1 e2 e3
     subst e1 e2 e3
     obtain ⟨rfl, hlen⟩ := keyOfAV_ok hks hk
     obtain rfl := elemOf_ok ha hv
     have hK : KeyIs T ks := ⟨hlen, inRs_ok hc⟩
     obtain ⟨b, ln, hb, rfl⟩ := hx
     have hr := hrb _ _ hm
     rw [hb] at hr
     obtain ⟨es, clock, hes, hR⟩ := hr
     obtain ⟨l, hl⟩ := F.lit ks hK
     rcases hR.find F hK w with ⟨h1, h2, h3⟩ | ⟨j, e0, x, h1, h2, h3, h4, h5⟩
     · refine ⟨b, ln, _, es, clock, es.push ⟨keyV T.agg ks, valV T.vb a, clock⟩, clock + 1, hb, hm, hes, ?_, _, rfl, ⟨?_, ?_, ?_⟩⟩
       · simp [Instr.mapUpdate, run_underlying F.und, MapKept.run_getObj_map hes, F.keyed.check w false hl, h2, MapKept.run_setObj_map _ hes, Result.andThen]
       · intro e he
         simp only [Array.toList_push, List.mem_append, List.mem_singleton] at he
         rcases he with he | rfl
         · obtain ⟨ks', x, g1, g2, g3, g4⟩ := hR.ent e he
           refine ⟨ks', x, g1, g2, ?_, g4⟩
           unfold putM
           rw [if_neg (fun e' => h3 e he (by rw [g2, e']))]
           exact g3
         · exact ⟨ks, a, hK, rfl, by simp [putM], rfl⟩
       · intro ks' x hx
         unfold putM at hx
         by_cases e' : ks' = ks
         · subst e'
           exact ⟨hK, ⟨keyV T.agg ks', valV T.vb a, clock⟩, by simp, rfl⟩
         · rw [if_neg e'] at hx
           obtain ⟨hK', e, he, hek⟩ := hR.all ks' x hx
           exact ⟨hK', e, by simp only [Array.toList_push, List.mem_append]; exact .inl he, hek⟩
       · intro i j e e' hi hj hee
         simp only [Array.getElem?_push] at hi hj
         split at hi <;> split at hj
         · omega
         · injection hi with hi; subst hi
           exact absurd hee.symm (h3 e' (by simpa using Array.mem_of_getElem? hj))
         · injection hj with hj; subst hj
           exact absurd hee (h3 e (by simpa using Array.mem_of_getElem? hi))
         · exact hR.one i j e e' hi hj hee
     · have hjl : j < es.size := (Array.getElem?_eq_some_iff.1 h3).1
       have hget : ∀ i, (es.modify j (fun e' => { e' with key := keyV T.agg ks, val := valV T.vb a }))[i]? = if j = i then some { e0 with key := keyV T.agg ks, val := valV T.vb a } else es[i]? := by
         intro i
         rw [Array.getElem?_modify]
         split
         · rename_i e; subst e; rw [h3]; rfl
         · rfl
       refine ⟨b, ln, _, es, clock, es.modify j (fun e' => { e' with key := keyV T.agg ks, val := valV T.vb a }), clock, hb, hm, hes, ?_, _, rfl, ⟨?_, ?_, ?_⟩⟩
       · have hst := F.keyed.stays w hl
         simp [Instr.mapUpdate, run_underlying F.und, MapKept.run_getObj_map hes, F.keyed.check w false hl, h2, MapKept.run_setObj_map _ hes, Result.andThen, h3, h4, hst]
       · intro e he
         obtain ⟨i, hi⟩ := List.mem_iff_getElem?.1 he
         rw [Array.getElem?_toList, hget] at hi
         split at hi
         · injection hi with hi
           subst hi
           exact ⟨ks, a, hK, rfl, by simp [putM], rfl⟩
         · rename_i hne
           obtain ⟨ks', x', g1, g2, g3, g4⟩ := hR.ent e (by simpa using Array.mem_of_getElem? hi)
           refine ⟨ks', x', g1, g2, ?_, g4⟩
           unfold putM
           rw [if_neg (fun e' => hne (hR.one j i e0 e h3 hi (by rw [h4, g2, e'])))]
           exact g3
       · intro ks' x' hx
         unfold putM at hx
         by_cases e' : ks' = ks
         · subst e'
           refine ⟨hK, { e0 with key := keyV T.agg ks', val := valV T.vb a }, List.mem_iff_getElem?.2 ⟨j, ?_⟩, rfl⟩
           rw [Array.getElem?_toList, hget, if_pos rfl]
         · rw [if_neg e'] at hx
           obtain ⟨hK', e, he, hek⟩ := hR.all ks' x' hx
           obtain ⟨i, hi⟩ := List.mem_iff_getElem?.1 he
           rw [Array.getElem?_toList] at hi
           have hne : j ≠ i := fun e1 => by
             subst e1
             rw [h3] at hi; injection hi with hi; subst hi
             exact e' (keyV_inj F.one hK' hK (hek.symm.trans h4))
           exact ⟨hK', e, List.mem_iff_getElem?.2 ⟨i, by rw [Array.getElem?_toList, hget, if_neg hne]; exact hi⟩, hek⟩
       · intro i i' e e' hi hi' hee
         rw [hget] at hi hi'
         split at hi <;> split at hi'
         · omega
         · injection hi with hi; subst hi
           rename_i e1 hne
           exact absurd (hR.one j i' e0 e' h3 hi' (by rw [h4]; exact hee)) hne
         · injection hi' with hi'; subst hi'
           rename_i hne e1
           exact absurd (hR.one j i e0 e h3 hi (by rw [h4]; exact hee.symm)) hne
         · exact hR.one i i' e e' hi hi' hee
   · cases h
 · cases h
theorem fstM_some {m : List Int → Option (Int × Nat)} {ks : List Int} {x : Int} (h : fstM m ks = some x) : ∃ s, m ks = some (x, s) := by
 unfold fstM at h
 split at h
 · rename_i y hy
   injection h with h
   exact ⟨y.2, by rw [hy, ← h]⟩
 · cases h
theorem fstM_of {m : List Int → Option (Int × Nat)} {ks : List Int} {x : Int} {s : Nat} (h : m ks = some (x, s)) : fstM m ks = some x := by unfold fstM; rw [h]
theorem fstM_none {m : List Int → Option (Int × Nat)} {ks : List Int} (h : fstM m ks = none) : m ks = none := by
 unfold fstM at h
 split at h
 · cases h
 · assumption
theorem erase_get {es : Array MapEntry} {j : Nat} (i : Nat) : (es.eraseIdxIfInBounds j)[i]? = if i < j then es[i]? else es[i + 1]? := by
 rw [← Array.getElem?_toList, Array.toList_eraseIdxIfInBounds, List.getElem?_eraseIdx]
 simp only [Array.getElem?_toList]
theorem erase_mem {es : Array MapEntry} {j : Nat} {e : MapEntry} (he : e ∈ (es.eraseIdxIfInBounds j).toList) : ∃ q, es[q]? = some e ∧ q ≠ j := by
 obtain ⟨i, hi⟩ := List.mem_iff_getElem?.1 he
 rw [Array.getElem?_toList, erase_get] at hi
 split at hi
 · exact ⟨i, hi, by omega⟩
 · exact ⟨i + 1, hi, by omega⟩
theorem erase_idx {es : Array MapEntry} {j : Nat} {q : MapEntry → Nat} (h : ∀ (i j : Nat) (e e' : MapEntry), es[i]? = some e → es[j]? = some e' → q e = q e' → i = j) : ∀ (i i' : Nat) (e e' : MapEntry), (es.eraseIdxIfInBounds j)[i]? = some e → (es.eraseIdxIfInBounds j)[i']? = some e' → q e = q e' → i = i' := by
 intro i i' e e' hi hi' hee
 rw [erase_get] at hi hi'
 split at hi <;> split at hi'
 · exact h i i' e e' hi hi' hee
 · have := h i (i' + 1) e e' hi hi' hee; omega
 · have := h (i + 1) i' e e' hi hi' hee; omega
 · have := h (i + 1) (i' + 1) e e' hi hi' hee; omega
theorem RMap.erase {T : MapT} (h1 : T.agg = false → T.n = 1) {m : List Int → Option Int} {es : Array MapEntry} (hR : RMap T m es) {ks : List Int} (hK : KeyIs T ks) {j : Nat} {e0 : MapEntry} (h3 : es[j]? = some e0) (h4 : e0.key = keyV T.agg ks) : RMap T (cutM m ks) (es.eraseIdxIfInBounds j) := by
 refine ⟨?_, ?_, ?_⟩
 · intro e he
   obtain ⟨q, hq, hqj⟩ := erase_mem he
   obtain ⟨ks', x', g1, g2, g3, g4⟩ := hR.ent e (by simpa using Array.mem_of_getElem? hq)
   refine ⟨ks', x', g1, g2, ?_, g4⟩
   unfold cutM
   rw [if_neg (fun e' => hqj (hR.one q j e e0 hq h3 (by rw [h4, g2, e'])))]
   exact g3
 · intro ks' x' hx
   unfold cutM at hx
   split at hx
   · cases hx
   · rename_i e'
     obtain ⟨hK', e, he, hek⟩ := hR.all ks' x' hx
     obtain ⟨i, hi⟩ := List.mem_iff_getElem?.1 he
     rw [Array.getElem?_toList] at hi
     have hne : i ≠ j := fun e1 => by
       subst e1
       rw [h3] at hi; injection hi with hi; subst hi
       exact e' (keyV_inj h1 hK' hK (hek.symm.trans h4))
     refine ⟨hK', e, List.mem_iff_getElem?.2 ?_, hek⟩
     by_cases hlt : i < j
     · exact ⟨i, by rw [Array.getElem?_toList, erase_get, if_pos hlt]; exact hi⟩
     · exact ⟨i - 1, by rw [Array.getElem?_toList, erase_get, if_neg (by omega), show i - 1 + 1 = i by omega]; exact hi⟩
 · intro i i' e e' hi hi' hee
   rw [erase_get] at hi hi'
   split at hi <;> split at hi'
   · exact hR.one i i' e e' hi hi' hee
   · have := hR.one i (i' + 1) e e' hi hi' hee; omega
   · have := hR.one (i + 1) i' e e' hi hi' hee; omega
   · have := hR.one (i + 1) (i' + 1) e e' hi hi' hee; omega
theorem cutS_fst (m : List Int → Option (Int × Nat)) (ks : List Int) : fstM (cutS m ks) = cutM (fstM m) ks := funext fun x => by
 unfold fstM cutS cutM
 by_cases h : x = ks <;> simp [h]
def MapSet (β : Nat → Loc) (hp : Nat → Option Blk) (w : World) (nm : Nat) (blk : Blk) (w' : World) : Prop :=
 ∃ (b ln : Nat) (old : Blk) (es : Array MapEntry) (clock : Nat) (es' : Array MapEntry) (clock' : Nat), β nm = .at b ln ∧ hp nm = some old ∧ w.heap[b]? = some (.map es clock) ∧ w' = { w with heap := w.heap.setIfInBounds b (.map es' clock') } ∧
   ((∃ T m, blk = .mp T m ∧ RMap T m es') ∨ ∃ T m, blk = .mq T m clock' ∧ RMapS T m es' clock')
theorem delete_ok {t t' : TypeId} {T : MapT} (F : MapFacts P t T) (hrb : ∀ n blk, hp n = some blk → RB β Z w (β n) blk) {x k : AV} {xv kv : Value} (hx : RA β Z w x xv) (hk : RA β Z w k kv) {c : List Prop} {nm : Nat} {blk : Blk}
   (h : planDelete hp T x k = .wr c nm blk) (hc : AllP c) (ty : TypeId) : ∃ w', (Builtin.delete_ #[t, t'] ty #[xv, kv]).run P w = .ok (.tuple #[]) w' ∧ MapSet β hp w nm blk w' := by
 unfold planDelete at h
 split at h
 · rename_i nm' ks hks
   split at h
   · rename_i T' m hm
     obtain ⟨hT, hq⟩ := need_ok h (by simp)
     obtain rfl := sameT_eq hT
     injection hq with e1 e2 e3
     subst e1 e2 e3
     obtain ⟨rfl, hlen⟩ := keyOfAV_ok hks hk
     have hK : KeyIs T ks := ⟨hlen, inRs_ok hc⟩
     obtain ⟨b, ln, hb, rfl⟩ := hx
     have hr := hrb _ _ hm
     rw [hb] at hr
     obtain ⟨es, clock, hes, hR⟩ := hr
     obtain ⟨l, hl⟩ := F.lit ks hK
     rcases hR.find F hK w with ⟨h1, h2, h3⟩ | ⟨j, e0, x, h1, h2, h3, h4, h5⟩
     · refine ⟨_, ?_, b, ln, _, es, clock, es, clock, hb, hm, hes, rfl, .inl ⟨_, _, rfl, ?_, ?_, hR.one⟩⟩
       · simp [Builtin.delete_, run_underlying F.und, MapKept.run_getObj_map hes, F.keyed.check w _ hl, h2, MapKept.run_setObj_map _ hes, Result.andThen]
       · intro e he
         obtain ⟨ks', x, g1, g2, g3, g4⟩ := hR.ent e he
         refine ⟨ks', x, g1, g2, ?_, g4⟩
         unfold cutM
         rw [if_neg (fun e' => h3 e he (by rw [g2, e']))]
         exact g3
       · intro ks' x hx
         unfold cutM at hx
         split at hx
         · cases hx
         · exact hR.all ks' x hx
     · exact ⟨_, by simp [Builtin.delete_, run_underlying F.und, MapKept.run_getObj_map hes, F.keyed.check w _ hl, h2, MapKept.run_setObj_map _ hes, Result.andThen]; rfl, b, ln, _, es, clock, _, _, hb, hm, hes, rfl, .inl ⟨_, _, rfl, hR.erase F.one hK h3 h4⟩⟩
   · rename_i T' m clk hm
     obtain ⟨hT, hq⟩ := need_ok h (by simp)
     obtain rfl := sameT_eq hT
     injection hq with e1 e2 e3
     subst e1 e2 e3
     obtain ⟨rfl, hlen⟩ := keyOfAV_ok hks hk
     have hK : KeyIs T ks := ⟨hlen, inRs_ok hc⟩
     obtain ⟨b, ln, hb, rfl⟩ := hx
     have hr := hrb _ _ hm
     rw [hb] at hr
     obtain ⟨es, hes, hS⟩ := hr
     have hR := hS.base
     obtain ⟨l, hl⟩ := F.lit ks hK
     rcases hR.find F hK w with ⟨h1, h2, h3⟩ | ⟨j, e0, x, h1, h2, h3, h4, h5⟩
     · have em : cutS m ks = m := funext fun y => by
         unfold cutS
         by_cases e : y = ks
         · subst e; rw [if_pos rfl, fstM_none h1]
         · rw [if_neg e]
       refine ⟨_, ?_, b, ln, _, es, clk, es, clk, hb, hm, hes, rfl, .inr ⟨_, _, rfl, by rw [em]; exact hS⟩⟩
       simp [Builtin.delete_, run_underlying F.und, MapKept.run_getObj_map hes, F.keyed.check w _ hl, h2, MapKept.run_setObj_map _ hes, Result.andThen]
     · refine ⟨_, by simp [Builtin.delete_, run_underlying F.und, MapKept.run_getObj_map hes, F.keyed.check w _ hl, h2, MapKept.run_setObj_map _ hes, Result.andThen]; rfl, b, ln, _, es, clk, _, _, hb, hm, hes, rfl, .inr ⟨_, _, rfl, by rw [cutS_fst]; exact hR.erase F.one hK h3 h4, fun e he => ?_, erase_idx (q := fun e => e.born) hS.uniq, fun e he => ?_⟩⟩
       · obtain ⟨q, hq, hqj⟩ := erase_mem he
         obtain ⟨ks', x', g1, g2, g3⟩ := hS.born e (by simpa using Array.mem_of_getElem? hq)
         refine ⟨ks', x', g1, g2, ?_⟩
         unfold cutS
         rw [if_neg (fun e' => hqj (hR.one q j e e0 hq h3 (by rw [h4, g2, e'])))]
         exact g3
       · obtain ⟨q, hq, hqj⟩ := erase_mem he
         exact hS.lt e (by simpa using Array.mem_of_getElem? hq)
   · cases h
 · cases h
theorem entry_ok {t : TypeId} {T : MapT} (F : MapFacts P t T) (hrb : ∀ n blk, hp n = some blk → RB β Z w (β n) blk) {x k : AV} {xv kv : Value} (hx : RA β Z w x xv) (hk : RA β Z w k kv) {c : List Prop} {nm : Nat} {blk : Blk} {v : AV}
   (h : planEntry hp T x k = .we c nm blk v) (hc : AllP c) : ∃ u w', (Instr.mapEntry t xv kv).run P w = .ok u w' ∧ (∀ β' Z' w'', RA β' Z' w'' v u) ∧ MapSet β hp w nm blk w' := by
 unfold planEntry at h
 split at h
 · rename_i nm' ks hks
   split at h
   · rename_i T' m clk hm
     obtain ⟨hT, hq⟩ := need_ok h (by simp)
     obtain rfl := sameT_eq hT
     injection hq with e1 e2 e3 e4
     subst e1 e2 e3 e4
     obtain ⟨rfl, hlen⟩ := keyOfAV_ok hks hk
     have hK : KeyIs T ks := ⟨hlen, inRs_ok hc⟩
     obtain ⟨b, ln, hb, rfl⟩ := hx
     have hr := hrb _ _ hm
     rw [hb] at hr
     obtain ⟨es, hes, hS⟩ := hr
     have hR := hS.base
     obtain ⟨l, hl⟩ := F.lit ks hK
     have val : ∀ (a s : Int) (β' : Nat → Loc) (Z' : Nat → Prop) (w'' : World), RA β' Z' w'' (.tup [.c (valCV T.vb (some a)), .c (.stp nm' ks s)]) (.tuple #[valV T.vb a, .int .i64 s]) := fun a s β' Z' w'' =>
       ⟨_, rfl, rfl, fun i y hy => by
         match i, hy with
         | 0, hy => simp at hy; subst hy; exact ⟨_, rfl, valCV_ok (x := some a)⟩
         | 1, hy => simp at hy; subst hy; exact ⟨_, rfl, rfl⟩⟩
     rcases hR.find F hK w with ⟨h1, h2, h3⟩ | ⟨j, e0, x, h1, h2, h3, h4, h5⟩
     · have hm0 := fstM_none h1
       refine ⟨_, _, by simp [Instr.mapEntry, run_underlying F.und, MapKept.run_getObj_map hes, F.keyed.check w false hl, h2, MapKept.run_setObj_map _ hes, Result.andThen, F.zero w]; rfl, by rw [hm0]; exact val 0 clk, b, ln, _, es, clk, es.push ⟨keyV T.agg ks, valV T.vb 0, clk⟩, clk + 1, hb, hm, hes, rfl, .inr ⟨T, _, by rw [hm0]; rfl, ⟨?_, ?_, ?_⟩, ?_, ?_, ?_⟩⟩
       · intro e he
         simp only [Array.toList_push, List.mem_append, List.mem_singleton] at he
         rcases he with he | rfl
         · obtain ⟨ks', x, g1, g2, g3, g4⟩ := hR.ent e he
           refine ⟨ks', x, g1, g2, ?_, g4⟩
           unfold fstM putS
           rw [if_neg (fun e' => h3 e he (by rw [g2, e']))]
           exact g3
         · refine ⟨ks, 0, hK, rfl, ?_, rfl⟩
           unfold fstM putS
           rw [if_pos rfl]; rfl
       · intro ks' x hx
         by_cases e' : ks' = ks
         · subst e'
           exact ⟨hK, ⟨keyV T.agg ks', valV T.vb 0, clk⟩, by simp, rfl⟩
         · have hx' : fstM m ks' = some x := by
             unfold fstM putS at hx
             rw [if_neg e'] at hx; exact hx
           obtain ⟨hK', e, he, hek⟩ := hR.all ks' x hx'
           exact ⟨hK', e, by simp only [Array.toList_push, List.mem_append]; exact .inl he, hek⟩
       · intro i j e e' hi hj hee
         simp only [Array.getElem?_push] at hi hj
         split at hi <;> split at hj
         · omega
         · injection hi with hi; subst hi
           exact absurd hee.symm (h3 e' (by simpa using Array.mem_of_getElem? hj))
         · injection hj with hj; subst hj
           exact absurd hee (h3 e (by simpa using Array.mem_of_getElem? hi))
         · exact hR.one i j e e' hi hj hee
       · intro e he
         simp only [Array.toList_push, List.mem_append, List.mem_singleton] at he
         rcases he with he | rfl
         · obtain ⟨ks', x, g1, g2, g3⟩ := hS.born e he
           refine ⟨ks', x, g1, g2, ?_⟩
           unfold putS
           rw [if_neg (fun e' => h3 e he (by rw [g2, e']))]
           exact g3
         · refine ⟨ks, 0, hK, rfl, ?_⟩
           unfold putS
           rw [if_pos rfl]; rfl
       · intro i j e e' hi hj hee
         simp only [Array.getElem?_push] at hi hj
         split at hi <;> split at hj
         · omega
         · injection hi with hi; subst hi
           have := hS.lt e' (by simpa using Array.mem_of_getElem? hj)
           simp only at hee; omega
         · injection hj with hj; subst hj
           have := hS.lt e (by simpa using Array.mem_of_getElem? hi)
           simp only at hee; omega
         · exact hS.uniq i j e e' hi hj hee
       · intro e he
         simp only [Array.toList_push, List.mem_append, List.mem_singleton] at he
         rcases he with he | rfl
         · have := hS.lt e he; omega
         · exact Nat.lt_succ_self clk
     · obtain ⟨s0, hms⟩ := fstM_some h1
       have hbs : e0.born = s0 := by
         obtain ⟨ks', x', g1, g2, g3⟩ := hS.born e0 (by simpa using Array.mem_of_getElem? h3)
         obtain rfl := keyV_inj F.one g1 hK (g2.symm.trans h4)
         rw [hms] at g3
         injection g3 with g3; injection g3 with _ g3; exact g3.symm
       have hsame : (es.modify j fun e => { e with key := keyV T.agg ks }) = es := by
         apply Array.ext_getElem?
         intro i
         rw [Array.getElem?_modify]
         split
         · rename_i e; subst e; rw [h3]; simp only [Option.map_some]; rw [← h4]
         · rfl
       have hput : putS m ks (entV (m ks)) (entS clk (m ks)) = m := funext fun y => by
         unfold putS
         by_cases e : y = ks
         · subst e; rw [if_pos rfl, hms]; rfl
         · rw [if_neg e]
       have hst := F.keyed.stays w hl
       have e5 : e0.val = valV T.vb x := h5
       refine ⟨.tuple #[valV T.vb x, .int .i64 (s0 : Int)], _, by simp [Instr.mapEntry, run_underlying F.und, MapKept.run_getObj_map hes, F.keyed.check w false hl, h2, MapKept.run_setObj_map _ hes, Result.andThen, h3, h4, hst, e5, hbs, goInt]; rfl, ?_, b, ln, _, es, clk, _, _, hb, hm, hes, rfl, .inr ⟨_, _, by rw [hput, hms]; rfl, by rw [hsame]; exact hS⟩⟩
       rw [hms]
       exact val x s0
   · cases h
 · cases h
theorem entryStore_ok {t : TypeId} {T : MapT} (F : MapFacts P t T) (hrb : ∀ n blk, hp n = some blk → RB β Z w (β n) blk) {x s v : AV} {xv sv vv : Value} (hx : RA β Z w x xv) (hs : RA β Z w s sv) (hv : RA β Z w v vv) {c : List Prop} {nm : Nat} {blk : Blk}
   (h : planEntryStore hp T x s v = .wr c nm blk) (hc : AllP c) : ∃ w', (Instr.entryStore t xv sv vv).run P w = .ok () w' ∧ MapSet β hp w nm blk w' := by
 unfold planEntryStore at h
 split at h
 · rename_i nm' n2 ks z a ha
   split at h
   · rename_i T' m clk hm
     obtain ⟨hT, hq⟩ := need_ok h (by simp)
     obtain rfl := sameT_eq hT
     injection hq with e1 e2 e3
     subst e1 e2 e3
     obtain rfl := elemOf_ok ha hv
     have hsv : sv = .int .i64 z := hs
     subst hsv
     obtain ⟨b, ln, hb, rfl⟩ := hx
     have hr := hrb _ _ hm
     rw [hb] at hr
     obtain ⟨es, hes, hS⟩ := hr
     have hR := hS.base
     have hz : stmp (m ks) = some z := hc.1
     obtain ⟨x0, s0, hms, rfl⟩ : ∃ x0 s0, m ks = some (x0, s0) ∧ z = (s0 : Int) := by
       unfold stmp at hz
       split at hz
       · rename_i y hy
         injection hz with hz
         exact ⟨y.1, y.2, hy, hz.symm⟩
       · cases hz
     obtain ⟨hK, e0, he0, hek⟩ := hR.all ks x0 (fstM_of hms)
     obtain ⟨j, hj⟩ := List.mem_iff_getElem?.1 he0
     rw [Array.getElem?_toList] at hj
     have hbs : e0.born = s0 := by
       obtain ⟨ks', x', g1, g2, g3⟩ := hS.born e0 he0
       obtain rfl := keyV_inj F.one g1 hK (g2.symm.trans hek)
       rw [hms] at g3
       injection g3 with g3; injection g3 with _ g3; exact g3.symm
     have hfind : es.findIdx? (fun e => (e.born : Int) == (s0 : Int)) = some j := by
       rw [Array.findIdx?_eq_some_iff_getElem]
       obtain ⟨hjl, hje⟩ := Array.getElem?_eq_some_iff.1 hj
       refine ⟨hjl, by rw [hje, hbs]; simp, fun i hi => ?_⟩
       have hil : i < es.size := by omega
       have : es[i]? = some es[i] := by simp [hil]
       intro hb
       have hb' : (es[i].born : Int) = s0 := by simpa using hb
       have := hS.uniq i j _ _ this hj (by omega)
       omega
     have hget : ∀ i, (es.modify j fun e => { e with val := valV T.vb a })[i]? = if j = i then some { e0 with val := valV T.vb a } else es[i]? := fun i => by
       rw [Array.getElem?_modify]
       split
       · rename_i e; subst e; rw [hj]; rfl
       · rfl
     have hkey : ∀ {i : Nat} {e : MapEntry}, (es.modify j fun e => { e with val := valV T.vb a })[i]? = some e → ∃ e1, es[i]? = some e1 ∧ e.key = e1.key ∧ e.born = e1.born := fun {i e} hi => by
       rw [hget] at hi
       split at hi
       · rename_i e1; subst e1; injection hi with hi; subst hi; exact ⟨e0, hj, rfl, rfl⟩
       · exact ⟨e, hi, rfl, rfl⟩
     have hne : ∀ {i : Nat} {e1 : MapEntry} {ks' : List Int}, es[i]? = some e1 → j ≠ i → e1.key = keyV T.agg ks' → ks' ≠ ks := fun {i e1 ks'} h1 h2 h3 e' => h2 (hR.one j i e0 e1 hj h1 (by rw [hek, h3, e']))
     refine ⟨_, by simp [Instr.entryStore, MapKept.run_getObj_map hes, hfind, MapKept.run_setObj_map _ hes, Result.andThen, asInt, asIntOf]; rfl, b, ln, _, es, clk, _, _, hb, hm, hes, rfl, .inr ⟨_, _, rfl, ⟨?_, ?_, ?_⟩, ?_, ?_, ?_⟩⟩
     · intro e he
       obtain ⟨i, hi⟩ := List.mem_iff_getElem?.1 he
       rw [Array.getElem?_toList, hget] at hi
       split at hi
       · injection hi with hi
         subst hi
         refine ⟨ks, a, hK, hek, ?_, rfl⟩
         unfold fstM putS
         rw [if_pos rfl]
       · rename_i hji
         obtain ⟨ks', x', g1, g2, g3, g4⟩ := hR.ent e (by simpa using Array.mem_of_getElem? hi)
         refine ⟨ks', x', g1, g2, ?_, g4⟩
         unfold fstM putS
         rw [if_neg (hne hi hji g2)]
         exact g3
     · intro ks' x' hx
       by_cases e' : ks' = ks
       · subst e'
         exact ⟨hK, { e0 with val := valV T.vb a }, List.mem_iff_getElem?.2 ⟨j, by rw [Array.getElem?_toList, hget, if_pos rfl]⟩, hek⟩
       · have hx' : fstM m ks' = some x' := by
           unfold fstM putS at hx
           rw [if_neg e'] at hx; exact hx
         obtain ⟨hK', e, he, hek'⟩ := hR.all ks' x' hx'
         obtain ⟨i, hi⟩ := List.mem_iff_getElem?.1 he
         rw [Array.getElem?_toList] at hi
         have hji : j ≠ i := fun e1 => by
           subst e1
           rw [hj] at hi; injection hi with hi; subst hi
           exact e' (keyV_inj F.one hK' hK (hek'.symm.trans hek))
         exact ⟨hK', e, List.mem_iff_getElem?.2 ⟨i, by rw [Array.getElem?_toList, hget, if_neg hji]; exact hi⟩, hek'⟩
     · intro i i' e e' hi hi' hee
       obtain ⟨e1, a1, a2, _⟩ := hkey hi
       obtain ⟨e2, b1, b2, _⟩ := hkey hi'
       exact hR.one i i' e1 e2 a1 b1 (by rw [← a2, ← b2]; exact hee)
     · intro e he
       obtain ⟨i, hi⟩ := List.mem_iff_getElem?.1 he
       rw [Array.getElem?_toList, hget] at hi
       split at hi
       · injection hi with hi
         subst hi
         refine ⟨ks, a, hK, hek, ?_⟩
         unfold putS
         rw [if_pos rfl]
         simp only [hbs, Int.toNat_natCast]
       · rename_i hji
         obtain ⟨ks', x', g1, g2, g3⟩ := hS.born e (by simpa using Array.mem_of_getElem? hi)
         refine ⟨ks', x', g1, g2, ?_⟩
         unfold putS
         rw [if_neg (hne hi hji g2)]
         exact g3
     · intro i i' e e' hi hi' hee
       obtain ⟨e1, a1, _, a2⟩ := hkey hi
       obtain ⟨e2, b1, _, b2⟩ := hkey hi'
       exact hS.uniq i i' e1 e2 a1 b1 (by rw [← a2, ← b2]; exact hee)
     · intro e he
       obtain ⟨i, hi⟩ := List.mem_iff_getElem?.1 he
       rw [Array.getElem?_toList] at hi
       obtain ⟨e1, a1, _, a2⟩ := hkey hi
       rw [a2]
       exact hS.lt e1 (by simpa using Array.mem_of_getElem? a1)
   · cases h
 · cases h
theorem wrOnly_delete {hpS : Nat → Option Blk} {T : MapT} {x k : AV} {nm : Nat} {r : (Nat → Option Blk) × AV} (he : (planDelete hpS T x k).eff nm hp = some r) : ∃ c n b, planDelete hpS T x k = .wr c n b ∧ r = (upd hp n (some b), .any) := by
 unfold planDelete at he ⊢
 split at he
 · split at he
   · unfold need at he ⊢
     split at he
     · simp only [Plan.eff, Option.some.injEq] at he; exact ⟨_, _, _, rfl, he.symm⟩
     · simp [Plan.eff] at he
   · unfold need at he ⊢
     split at he
     · simp only [Plan.eff, Option.some.injEq] at he; exact ⟨_, _, _, rfl, he.symm⟩
     · simp [Plan.eff] at he
   · simp [Plan.eff] at he
 · simp [Plan.eff] at he
theorem weOnly_entry {hpS : Nat → Option Blk} {T : MapT} {x k : AV} {nm : Nat} {r : (Nat → Option Blk) × AV} (he : (planEntry hpS T x k).eff nm hp = some r) : ∃ c n b v, planEntry hpS T x k = .we c n b v ∧ r = (upd hp n (some b), v) := by
 unfold planEntry at he ⊢
 split at he
 · split at he
   · unfold need at he ⊢
     split at he
     · simp only [Plan.eff, Option.some.injEq] at he; exact ⟨_, _, _, _, rfl, he.symm⟩
     · simp [Plan.eff] at he
   · simp [Plan.eff] at he
 · simp [Plan.eff] at he
theorem wrOnly_entryStore {hpS : Nat → Option Blk} {T : MapT} {x s v : AV} {nm : Nat} {r : (Nat → Option Blk) × AV} (he : (planEntryStore hpS T x s v).eff nm hp = some r) : ∃ c n b, planEntryStore hpS T x s v = .wr c n b ∧ r = (upd hp n (some b), .any) := by
 unfold planEntryStore at he ⊢
 split at he
 · split at he
   · unfold need at he ⊢
     split at he
     · simp only [Plan.eff, Option.some.injEq] at he; exact ⟨_, _, _, rfl, he.symm⟩
     · simp [Plan.eff] at he
   · simp [Plan.eff] at he
 · simp [Plan.eff] at he
theorem SatH.setMapB (h : SatH E B Fr β Z hp w) {n : Nat} {old : Blk} (hn : hp n = some old) {b ln : Nat} (hb : β n = .at b ln) {es es' : Array MapEntry} {clock clock' : Nat} (hw : w.heap[b]? = some (.map es clock)) {blk : Blk} (hR : ∀ w' : World, w'.heap[b]? = some (.map es' clock') → RB β Z w' (.at b ln) blk) :
   Left E B Fr β Z hp w β Z (upd hp n (some blk)) (w.putObj b (.map es' clock')) := by
 have hlt : b < w.heap.size := (Array.getElem?_eq_some_iff.1 hw).1
 have hown : Own β hp b := ⟨n, old, ln, hn, hb⟩
 have ev : Evo (Own β hp) Z w Z (w.putObj b (.map es' clock')) := by
   refine ⟨rfl, rfl, rfl, by simp, fun k hk hno => ?_, fun k cs e hk => ⟨cs, ?_, rfl⟩, fun k rk hk => ⟨rk, ?_, rfl, rfl, rfl, rfl, rfl, rfl⟩, fun _ h => h⟩
   · exact World.putObj_heap_other (fun e => hno (e ▸ hown))
   · rw [World.putObj_heap_other (fun e => by subst e; rw [hw] at hk; simp at hk)]; exact hk
   · rw [World.putObj_heap_other (fun e => by subst e; rw [hw] at hk; simp at hk)]; exact hk
 refine ⟨h.step ev (Ext.refl β) (fun m' blk' hm => ?_) (fun m1 m2 x y b' l1 l2 h1 h2 hb1 hb2 => ?_) (fun b' hb' => by simpa using h.zlt b' hb') h.fresh, ev, Ext.refl β, fun b' hb' => ?_, fun b hb => .inl hb⟩
 · by_cases hmn : m' = n
   · subst hmn
     rw [upd_same] at hm
     injection hm with hm
     subst hm
     refine .inr ⟨by rw [hb]; exact hR _ (World.putObj_heap_same hlt), fun b' ln' hb' => ?_⟩
     obtain ⟨g1, g2, g3⟩ := h.own m' old b' ln' hn hb'
     exact ⟨by simpa using g1, g2, g3⟩
   · rw [upd_ne _ _ hmn] at hm
     refine .inl ⟨hm, fun b' ln' hb' => ⟨World.putObj_heap_other (fun e1 => hmn ?_), (h.own m' blk' b' ln' hm hb').2.1⟩⟩
     subst e1
     exact h.inj m' n _ _ _ _ _ hm hn hb' hb
 · have some_of : ∀ m' x, upd hp n (some blk) m' = some x → ∃ x', hp m' = some x' := fun m' x hm => by
     by_cases hmn : m' = n
     · subst hmn; exact ⟨old, hn⟩
     · rw [upd_ne _ _ hmn] at hm; exact ⟨x, hm⟩
   obtain ⟨x', hx'⟩ := some_of m1 x h1
   obtain ⟨y', hy'⟩ := some_of m2 y h2
   exact h.inj m1 m2 x' y' b' l1 l2 hx' hy' hb1 hb2
 · obtain ⟨m', x, ln', h1, h2⟩ := hb'
   by_cases hmn : m' = n
   · subst hmn; exact .inl ⟨m', old, ln', hn, h2⟩
   · rw [upd_ne _ _ hmn] at h1; exact .inl ⟨m', x, ln', h1, h2⟩
theorem SatH.setMap (h : SatH E B Fr β Z hp w) {n : Nat} {old : Blk} (hn : hp n = some old) {b ln : Nat} (hb : β n = .at b ln) {es es' : Array MapEntry} {clock clock' : Nat} (hw : w.heap[b]? = some (.map es clock)) {T : MapT} {m : List Int → Option Int} (hR : RMap T m es') :
   Left E B Fr β Z hp w β Z (upd hp n (some (.mp T m))) (w.putObj b (.map es' clock')) := by
 have hlt : b < w.heap.size := (Array.getElem?_eq_some_iff.1 hw).1
 have hown : Own β hp b := ⟨n, old, ln, hn, hb⟩
 have ev : Evo (Own β hp) Z w Z (w.putObj b (.map es' clock')) := by
   refine ⟨rfl, rfl, rfl, by simp, fun k hk hno => ?_, fun k cs e hk => ⟨cs, ?_, rfl⟩, fun k rk hk => ⟨rk, ?_, rfl, rfl, rfl, rfl, rfl, rfl⟩, fun _ h => h⟩
   · exact World.putObj_heap_other (fun e => hno (e ▸ hown))
   · rw [World.putObj_heap_other (fun e => by subst e; rw [hw] at hk; simp at hk)]; exact hk
   · rw [World.putObj_heap_other (fun e => by subst e; rw [hw] at hk; simp at hk)]; exact hk
 refine ⟨h.step ev (Ext.refl β) (fun m' blk hm => ?_) (fun m1 m2 x y b' l1 l2 h1 h2 hb1 hb2 => ?_) (fun b' hb' => by simpa using h.zlt b' hb') h.fresh, ev, Ext.refl β, fun b' hb' => ?_, fun b hb => .inl hb⟩
 · by_cases hmn : m' = n
   · subst hmn
     rw [upd_same] at hm
     injection hm with hm
     subst hm
     refine .inr ⟨by rw [hb]; exact ⟨es', clock', World.putObj_heap_same hlt, hR⟩, fun b' ln' hb' => ?_⟩
     obtain ⟨g1, g2, g3⟩ := h.own m' old b' ln' hn hb'
     exact ⟨by simpa using g1, g2, g3⟩
   · rw [upd_ne _ _ hmn] at hm
     refine .inl ⟨hm, fun b' ln' hb' => ⟨World.putObj_heap_other (fun e1 => hmn ?_), (h.own m' blk b' ln' hm hb').2.1⟩⟩
     subst e1
     exact h.inj m' n _ _ _ _ _ hm hn hb' hb
 · have some_of : ∀ m' x, upd hp n (some (.mp T m)) m' = some x → ∃ x', hp m' = some x' := fun m' x hm => by
     by_cases hmn : m' = n
     · subst hmn; exact ⟨old, hn⟩
     · rw [upd_ne _ _ hmn] at hm; exact ⟨x, hm⟩
   obtain ⟨x', hx'⟩ := some_of m1 x h1
   obtain ⟨y', hy'⟩ := some_of m2 y h2
   exact h.inj m1 m2 x' y' b' l1 l2 hx' hy' hb1 hb2
 · obtain ⟨m', x, ln', h1, h2⟩ := hb'
   by_cases hmn : m' = n
   · subst hmn; exact .inl ⟨m', old, ln', hn, h2⟩
   · rw [upd_ne _ _ hmn] at h1; exact .inl ⟨m', x, ln', h1, h2⟩
theorem SatH.setMapS (h : SatH E B Fr β Z hp w) {n : Nat} {blk : Blk} {w' : World} (hm : MapSet β hp w n blk w') : Left E B Fr β Z hp w β Z (upd hp n (some blk)) w' := by
 obtain ⟨b, ln, old, es, clock, es', clock', hb, hold, hes, rfl, hR⟩ := hm
 refine h.setMapB hold hb hes (es' := es') (clock' := clock') fun w1 h1 => ?_
 rcases hR with ⟨T, m, rfl, hR⟩ | ⟨T, m, rfl, hR⟩
 · exact ⟨es', clock', h1, hR⟩
 · exact ⟨es', h1, hR⟩
theorem MapSet.sub {hpS : Nat → Option Blk} (hsub : ∀ n blk, hpS n = some blk → hp n = some blk) {n : Nat} {blk : Blk} {w' : World} (h : MapSet β hpS w n blk w') : MapSet β hp w n blk w' := by
 obtain ⟨b, ln, old, es, clock, es', clock', hb, hold, r⟩ := h
 exact ⟨b, ln, old, es, clock, es', clock', hb, hsub n old hold, r⟩
theorem okBad_lookup {T : MapT} {x k : AV} {ok : Bool} : okBad (planLookup hp T x k ok) := by
 unfold planLookup
 repeat' split
 all_goals first | trivial | exact okBad_need trivial
theorem wrOnly_update {hpS : Nat → Option Blk} {T : MapT} {x k y : AV} {nm : Nat} {r : (Nat → Option Blk) × AV} (he : (planMapUpdate hpS T x k y).eff nm hp = some r) : ∃ c n b, planMapUpdate hpS T x k y = .wr c n b ∧ r = (upd hp n (some b), .any) := by
 unfold planMapUpdate at he ⊢
 split at he
 · split at he
   · unfold need at he ⊢
     split at he
     · simp only [Plan.eff, Option.some.injEq] at he; exact ⟨_, _, _, rfl, he.symm⟩
     · simp [Plan.eff] at he
   · simp [Plan.eff] at he
 · simp [Plan.eff] at he
theorem SatH.less (h : SatH E B Fr β Z hp w) {n : Nat} {b1 b : Blk} (hn : hp n = some b1) (hb : RB β Z w (β n) b) : SatH E B Fr β Z (upd hp n (some b)) w := by
 have some_of : ∀ m' x, upd hp n (some b) m' = some x → ∃ x', hp m' = some x' := fun m' x hm => by
   by_cases hmn : m' = n
   · subst hmn; exact ⟨b1, hn⟩
   · rw [upd_ne _ _ hmn] at hm; exact ⟨x, hm⟩
 refine ⟨fun m x hm => ?_, fun m x k ln hm hk => ?_, fun m1 m2 x y k l1 l2 h1 h2 hb1 hb2 => ?_, h.zlt, h.fresh, h.gl⟩
 · by_cases e : m = n
   · subst e; rw [upd_same] at hm; injection hm with hm; subst hm; exact hb
   · rw [upd_ne _ _ e] at hm; exact h.rb m x hm
 · obtain ⟨x', hx'⟩ := some_of m x hm
   exact h.own m x' k ln hx' hk
 · obtain ⟨x', hx'⟩ := some_of m1 x h1
   obtain ⟨y', hy'⟩ := some_of m2 y h2
   exact h.inj m1 m2 x' y' k l1 l2 hx' hy' hb1 hb2
theorem wrOnly_upd {hpS : Nat → Option Blk} {T : MapT} {x k y : AV} {nm : Nat} {r : (Nat → Option Blk) × AV} (he : (planMapUpd hpS T x k y).eff nm hp = some r) : ∃ c n b, planMapUpd hpS T x k y = .wr c n b ∧ r = (upd hp n (some b), .any) := by
 unfold planMapUpd at he ⊢
 split at he
 · split at he
   · unfold need at he ⊢
     split at he
     · simp only [Plan.eff, Option.some.injEq] at he; exact ⟨_, _, _, rfl, he.symm⟩
     · simp [Plan.eff] at he
   · exact wrOnly_update he
 · simp [Plan.eff] at he
theorem upd_ok {t : TypeId} {T : MapT} (F : MapFacts P t T) {hpS : Nat → Option Blk} (h : SatH E B Fr β Z hp w) (hsub : ∀ n blk, hpS n = some blk → hp n = some blk) {x k v : AV} {xv kv vv : Value} (hx : RA β Z w x xv) (hk : RA β Z w k kv) (hv : RA β Z w v vv) {c : List Prop} {nm : Nat} {blk : Blk}
   (hp0 : planMapUpd hpS T x k v = .wr c nm blk) (hc : AllP c) :
   ∃ w', (Instr.mapUpdate t xv kv vv).run P w = .ok () w' ∧ Left E B Fr β Z hp w β Z (upd hp nm (some blk)) w' := by
 have hrbS : ∀ n blk, hpS n = some blk → RB β Z w (β n) blk := fun n blk hn => h.rb n blk (hsub n blk hn)
 have known : planMapUpdate hpS T x k v = .wr c nm blk → ∃ w', (Instr.mapUpdate t xv kv vv).run P w = .ok () w' ∧ Left E B Fr β Z hp w β Z (upd hp nm (some blk)) w' := fun e1 => by
   obtain ⟨bk, ln, old, es, clock, es', clock', hb, hold, hes, hr, m, rfl, hR⟩ := update_ok F hrbS hx hk hv e1 hc
   exact ⟨_, hr, h.setMap (hsub nm old hold) hb hes (clock' := clock') hR⟩
 unfold planMapUpd at hp0
 split at hp0
 · rename_i nm' ks a hks ha
   split at hp0
   · rename_i T' I hI
     obtain ⟨hT, hq⟩ := need_ok hp0 (by simp)
     obtain rfl := sameT_eq hT
     injection hq with e1 e2 e3
     subst e1 e2 e3
     obtain ⟨b, ln, hb, rfl⟩ := hx
     have hrb := hrbS _ _ hI
     rw [hb] at hrb
     obtain ⟨es, clock, m, hes, hR, hm⟩ := hrb
     have hrb1 : ∀ n blk, upd hp nm' (some (.mp T m)) n = some blk → RB β Z w (β n) blk := fun n blk hn => by
       by_cases e : n = nm'
       · subst e
         rw [upd_same] at hn; injection hn with hn; subst hn
         rw [hb]; exact ⟨es, clock, hes, hR⟩
       · rw [upd_ne _ _ e] at hn; exact h.rb n blk hn
     have hp1 : planMapUpdate (upd hp nm' (some (.mp T m))) T (.t (.c (.mp nm'))) k v = .wr (inRs ks) nm' (.mp T (putM m ks a)) := by
       unfold planMapUpdate
       rw [hks, ha]
       simp only [upd_same, hT]
       rfl
     obtain ⟨bk, ln', old, es0, clock0, es', clock', hb', hold, hes', hr, m', hm', hR'⟩ := update_ok F hrb1 (x := .t (.c (.mp nm'))) ⟨b, ln, hb, rfl⟩ hk hv hp1 hc.2
     injection hm' with _ hm'
     subst hm'
     have hl := h.setMap (hsub nm' _ hI) hb' hes' (clock' := clock') hR'
     refine ⟨_, hr, ⟨?_, hl.ev, hl.ext, fun b' hb' => ?_, hl.zown⟩⟩
     · have hs := hl.sat.less (n := nm') (b1 := .mp T (putM m ks a)) (b := .mpI T I) (upd_same _ _ _) (by
         have := hl.sat.rb nm' _ (upd_same _ _ _)
         rw [hb] at this ⊢
         obtain ⟨es2, c2, k1, k2⟩ := this
         refine ⟨es2, c2, _, k1, k2, fun ks' x hx => ?_⟩
         unfold putM at hx
         split at hx
         · rename_i e; subst e; injection hx with hx; subst hx; exact hc.1
         · exact hm ks' x hx)
       have e : upd (upd hp nm' (some (.mp T (putM m ks a)))) nm' (some (.mpI T I)) = upd hp nm' (some (.mpI T I)) := funext fun n => by
         by_cases e : n = nm'
         · subst e; rw [upd_same, upd_same]
         · rw [upd_ne _ _ e, upd_ne _ _ e, upd_ne _ _ e]
       rw [e] at hs
       exact hs
     · obtain ⟨n, x, l2, h1, h2⟩ := hb'
       refine hl.own b' ?_
       by_cases e : n = nm'
       · subst e; exact ⟨n, _, l2, upd_same _ _ _, h2⟩
       · rw [upd_ne _ _ e] at h1; exact ⟨n, x, l2, by rw [upd_ne _ _ e]; exact h1, h2⟩
   · exact known hp0
 · cases hp0
end
end Go.Sx
