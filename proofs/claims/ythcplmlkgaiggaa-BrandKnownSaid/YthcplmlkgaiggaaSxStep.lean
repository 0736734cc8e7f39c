/- The framework Sx, part 4: what a step does to an abstract state, and that the model's operation does just that. -/
import Derived.Test.YthcplmlkgaiggaaSxOps3
set_option linter.unusedSimpArgs false
set_option linter.unusedVariables false
namespace Go.Sx

/-- The blocks of the call's own. -/
def Own (β : Nat → Loc) (hp : Nat → Option Blk) (b : Nat) : Prop := ∃ n blk ln, hp n = some blk ∧ β n = .at b ln

/-- The heap is as the abstract state says. `Fr`: the names that are free. -/
structure SatH (E : Env) (B : Nat) (Fr : Nat → Prop) (β : Nat → Loc) (Z : Nat → Prop) (hp : Nat → Option Blk) (w : World) : Prop where
  rb : ∀ n blk, hp n = some blk → RB β Z w (β n) blk
  own : ∀ n blk b ln, hp n = some blk → β n = .at b ln → b < w.heap.size ∧ ¬ Z b ∧ B ≤ b
  inj : ∀ n m x y b l1 l2, hp n = some x → hp m = some y → β n = .at b l1 → β m = .at b l2 → n = m
  zlt : ∀ b, Z b → b < w.heap.size
  fresh : ∀ n, Fr n → β n = .no
  gl : GlOk E Z w

section
variable {P : Program} {E : Env} {B : Nat} {Fr Fr' : Nat → Prop} {β β' : Nat → Loc} {Z Z' : Nat → Prop} {hp hp' : Nat → Option Blk} {w w' : World}

theorem SatH.calm (h : SatH E B Fr β Z hp w) : Calm (Own β hp) Z w :=
  fun b hb => ⟨h.zlt b hb, fun ⟨n, blk, ln, h1, h2⟩ => (h.own n blk b ln h1 h2).2.1 hb⟩

theorem GlOk.mono {own : Nat → Prop} (h : GlOk E Z w) (ev : Evo own Z w Z' w') (hc : Calm own Z w) : GlOk E Z' w' := fun g n get hg => by
  obtain ⟨h1, h2⟩ := h g n get hg
  refine ⟨ev.zmono g h1, fun j hj => ?_⟩
  obtain ⟨u, hu, hr⟩ := h2 j hj
  exact ⟨u, by rw [ev.cell hc h1]; exact hu, RP.mono ev hc hr⟩

theorem SatH.step (h : SatH E B Fr β Z hp w) (ev : Evo (Own β hp) Z w Z' w') (ext : Ext β β')
    (keep : ∀ n blk, hp' n = some blk → (hp n = some blk ∧ (∀ b ln, β n = .at b ln → w'.heap[b]? = w.heap[b]? ∧ ¬ Z' b)) ∨ (RB β' Z' w' (β' n) blk ∧ ∀ b ln, β' n = .at b ln → b < w'.heap.size ∧ ¬ Z' b ∧ B ≤ b))
    (inj' : ∀ n m x y b l1 l2, hp' n = some x → hp' m = some y → β' n = .at b l1 → β' m = .at b l2 → n = m)
    (zlt' : ∀ b, Z' b → b < w'.heap.size) (fr' : ∀ n, Fr' n → β' n = .no) : SatH E B Fr' β' Z' hp' w' := by
  have known : ∀ n blk, hp n = some blk → β' n = β n := fun n blk hn => ext n (by
    intro e
    have := h.rb n blk hn
    rw [e] at this
    cases blk <;> exact this.elim)
  refine ⟨fun n blk hn => ?_, fun n blk b ln hn hb => ?_, inj', zlt', fr', h.gl.mono ev h.calm⟩
  · rcases keep n blk hn with ⟨h1, h2⟩ | ⟨h1, _⟩
    · rw [known n blk h1]
      exact RB.mono ev h.calm ext (fun b ln hb => (h2 b ln hb).1) (h.rb n blk h1)
    · exact h1
  · rcases keep n blk hn with ⟨h1, h2⟩ | ⟨_, h2⟩
    · rw [known n blk h1] at hb
      obtain ⟨g1, _, g3⟩ := h.own n blk b ln h1 hb
      exact ⟨Nat.lt_of_lt_of_le g1 ev.size, (h2 b ln hb).2, g3⟩
    · exact h2 b ln hb

theorem Evo.alloc (own : Nat → Prop) (Z : Nat → Prop) (w : World) (o : Obj) : Evo own Z w Z (w.alloc o) :=
  ⟨rfl, rfl, rfl, by simp, fun b hb _ => heap_alloc_old w o b hb, fun b cs e hb => ⟨cs, by rw [heap_alloc_old w o b (Array.getElem?_eq_some_iff.1 hb).1]; exact hb, rfl⟩,
    fun b r hb => ⟨r, by rw [heap_alloc_old w o b (Array.getElem?_eq_some_iff.1 hb).1]; exact hb, rfl, rfl, rfl, rfl, rfl, rfl⟩, fun _ h => h⟩

theorem ext_upd {nm : Nat} {l : Loc} (h : β nm = .no) : Ext β (upd β nm l) := fun n hn => by
  rw [upd_ne]
  intro e; subst e; exact hn h

theorem RBc.mono {own : Nat → Prop} (ev : Evo own Z w Z' w') (hc : Calm own Z w) (ext : Ext β β') {ln : Nat} {cs : Array Value} {e : TypeId} {blk : Blk} (h : RBc β Z w ln cs e blk) : RBc β' Z' w' ln cs e blk := by
  cases blk with
  | box n get => exact ⟨h.1, fun j hj => let ⟨u, hu, hr⟩ := h.2 j hj; ⟨u, hu, RC.mono ev hc ext hr⟩⟩
  | row e' size len get => exact ⟨h.1, h.2.1, h.2.2.1, fun i hi j hj => let ⟨u, hu, hr⟩ := h.2.2.2 i hi j hj; ⟨u, hu, RP.mono ev hc hr⟩⟩
  | mp => exact h.elim
  | mpI => exact h.elim
  | lp => exact h.elim

theorem not_known (h : SatH E B Fr β Z hp w) {nm : Nat} (hf : β nm = .no) : hp nm = none := by
  cases hn : hp nm with
  | none => rfl
  | some blk =>
    have := h.rb nm blk hn
    rw [hf] at this
    cases blk <;> exact this.elim

/-- What is left of a step: the new state holds, the value fits, the world has turned as it may. -/
structure Left (E : Env) (B : Nat) (Fr' : Nat → Prop) (β : Nat → Loc) (Z : Nat → Prop) (hp : Nat → Option Blk) (w : World) (β' : Nat → Loc) (Z' : Nat → Prop) (hp' : Nat → Option Blk) (w' : World) : Prop where
  sat : SatH E B Fr' β' Z' hp' w'
  ev : Evo (Own β hp) Z w Z' w'
  ext : Ext β β'
  own : ∀ b, Own β' hp' b → Own β hp b ∨ w.heap.size ≤ b
  zown : ∀ b, Z' b → Z b ∨ Own β hp b ∨ w.heap.size ≤ b

theorem SatH.mk_obj (h : SatH E B Fr β Z hp w) (hB : B ≤ w.heap.size) {nm : Nat} (hf : Fr nm) {blk : Blk} {o : Obj} {ln : Nat} (hrb : RB (upd β nm (.at w.heap.size ln)) Z (w.alloc o) (.at w.heap.size ln) blk) :
    Left E B (fun n => Fr n ∧ n ≠ nm) β Z hp w (upd β nm (.at w.heap.size ln)) Z (upd hp nm (some blk)) (w.alloc o) := by
  have hno := h.fresh nm hf
  have hx := ext_upd (l := .at w.heap.size ln) hno
  have ev := Evo.alloc (Own β hp) Z w o
  have hnone := not_known h hno
  have other : ∀ n blk', upd hp nm (some blk) n = some blk' → n ≠ nm → hp n = some blk' := fun n blk' h1 h2 => by rw [upd_ne _ _ h2] at h1; exact h1
  refine ⟨h.step ev hx (fun n blk' hn => ?_) (fun n m x y b l1 l2 hn hm hb1 hb2 => ?_) (fun b hb => by simp; exact Nat.lt_succ_of_lt (h.zlt b hb)) (fun n hn => by rw [upd_ne _ _ hn.2]; exact h.fresh n hn.1), ev, hx, fun b hb => ?_, fun b hb => .inl hb⟩
  · by_cases hnn : n = nm
    · subst hnn
      rw [upd_same] at hn; injection hn with hn; subst hn
      rw [upd_same]
      refine .inr ⟨hrb, fun b ln' hb => ?_⟩
      injection hb with hb1 hb2; subst hb1
      exact ⟨by simp, fun hz => Nat.lt_irrefl _ (h.zlt _ hz), hB⟩
    · have h1 := other n blk' hn hnn
      refine .inl ⟨h1, fun b ln' hb => ?_⟩
      obtain ⟨g1, g2, _⟩ := h.own n blk' b ln' h1 hb
      exact ⟨heap_alloc_old w _ b g1, g2⟩
  · by_cases hnn : n = nm
    · by_cases hmm : m = nm
      · rw [hnn, hmm]
      · subst hnn
        rw [upd_same] at hb1; injection hb1 with e1 _; subst e1
        have h1 := other m y hm hmm
        rw [upd_ne _ _ hmm] at hb2
        exact absurd (h.own m y _ _ h1 hb2).1 (Nat.lt_irrefl _)
    · by_cases hmm : m = nm
      · subst hmm
        rw [upd_same] at hb2; injection hb2 with e1 _; subst e1
        have h1 := other n x hn hnn
        rw [upd_ne _ _ hnn] at hb1
        exact absurd (h.own n x _ _ h1 hb1).1 (Nat.lt_irrefl _)
      · rw [upd_ne _ _ hnn] at hb1
        rw [upd_ne _ _ hmm] at hb2
        exact h.inj n m x y b l1 l2 (other n x hn hnn) (other m y hm hmm) hb1 hb2
  · obtain ⟨n, blk', ln', h1, h2⟩ := hb
    by_cases hnn : n = nm
    · subst hnn; rw [upd_same] at h2; injection h2 with e1 _; subst e1; exact .inr (Nat.le_refl _)
    · rw [upd_ne _ _ hnn] at h2
      exact .inl ⟨n, blk', ln', other n blk' h1 hnn, h2⟩

theorem SatH.mk_block (h : SatH E B Fr β Z hp w) (hB : B ≤ w.heap.size) {nm : Nat} (hf : Fr nm) {blk : Blk} {cs : Array Value} {e : TypeId} {ln : Nat} (hc : RBc β Z w ln cs e blk) :
    Left E B (fun n => Fr n ∧ n ≠ nm) β Z hp w (upd β nm (.at w.heap.size ln)) Z (upd hp nm (some blk)) (w.alloc (.cells cs e)) :=
  h.mk_obj hB hf (RB.of_c (heap_alloc_new w _) (hc.mono (Evo.alloc (Own β hp) Z w (.cells cs e)) h.calm (ext_upd (h.fresh nm hf))))

theorem SatH.write (h : SatH E B Fr β Z hp w) {n : Nat} {old blk : Blk} (hn : hp n = some old) {b ln : Nat} (hb : β n = .at b ln) {cs cs' : Array Value} {e : TypeId} (hcs : w.heap[b]? = some (.cells cs e (0, 0))) (hsz : cs'.size = cs.size)
    (hc : RBc β Z w ln cs' e blk) : Left E B Fr β Z hp w β Z (upd hp n (some blk)) (w.setRow b cs') := by
  have ev : Evo (Own β hp) Z w Z (w.setRow b cs') := by
    refine ⟨rfl, rfl, rfl, by simp, fun k hk hno => ?_, fun k ks ke hk => ?_, fun k r hk => ⟨r, ?_, rfl, rfl, rfl, rfl, rfl, rfl⟩, fun _ h => h⟩
    · refine setRow_other w b k cs' (fun e1 => hno ?_)
      subst e1; exact ⟨n, old, ln, hn, hb⟩
    · by_cases hkb : k = b
      · subst hkb
        rw [hcs] at hk; injection hk with hk; injection hk with h1 h2 h3
        subst h1; subst h2
        exact ⟨cs', setRow_heap w k cs cs' e (0, 0) hcs, hsz⟩
      · exact ⟨ks, by rw [setRow_other w b k cs' hkb]; exact hk, rfl⟩
    · rw [setRow_other w b k cs' (fun e1 => by subst e1; rw [hcs] at hk; simp at hk)]; exact hk
  have hx := Ext.refl β
  refine ⟨h.step ev hx (fun m blk' hm => ?_) (fun m1 m2 x y b' l1 l2 h1 h2 hb1 hb2 => ?_) (fun b' hb' => by simpa using h.zlt b' hb') h.fresh, ev, hx, fun b' hb' => ?_, fun b hb => .inl hb⟩
  · by_cases hmn : m = n
    · subst hmn
      rw [upd_same] at hm; injection hm with hm; subst hm
      refine .inr ⟨by rw [hb]; exact RB.of_c (setRow_heap w b cs cs' e (0, 0) hcs) (hc.mono ev h.calm hx), fun b' ln' hb' => ?_⟩
      obtain ⟨g1, g2, g3⟩ := h.own m old b' ln' hn hb'
      exact ⟨by simpa using g1, g2, g3⟩
    · rw [upd_ne _ _ hmn] at hm
      refine .inl ⟨hm, fun b' ln' hb' => ?_⟩
      obtain ⟨g1, g2, _⟩ := h.own m blk' b' ln' hm hb'
      refine ⟨setRow_other w b b' cs' (fun e1 => hmn ?_), g2⟩
      subst e1
      exact h.inj m n _ _ _ _ _ hm hn hb' hb
  · have some_of : ∀ m x, upd hp n (some blk) m = some x → ∃ x', hp m = some x' := fun m x hm => by
      by_cases hmn : m = n
      · subst hmn; exact ⟨old, hn⟩
      · rw [upd_ne _ _ hmn] at hm; exact ⟨x, hm⟩
    obtain ⟨x', hx'⟩ := some_of m1 x h1
    obtain ⟨y', hy'⟩ := some_of m2 y h2
    exact h.inj m1 m2 x' y' b' l1 l2 hx' hy' hb1 hb2
  · obtain ⟨m, x, ln', h1, h2⟩ := hb'
    by_cases hmn : m = n
    · subst hmn; exact .inl ⟨m, old, ln', hn, h2⟩
    · rw [upd_ne _ _ hmn] at h1; exact .inl ⟨m, x, ln', h1, h2⟩

/-- A block of the call's own is let go: it may be read as memory that stays. -/
theorem SatH.freeze (h : SatH E B Fr β Z hp w) (n : Nat) :
    Left E B Fr β Z hp w β (fun b => Z b ∨ (∃ blk ln, hp n = some blk ∧ β n = .at b ln)) (upd hp n none) w := by
  have ev : Evo (Own β hp) Z w (fun b => Z b ∨ (∃ blk ln, hp n = some blk ∧ β n = .at b ln)) w :=
    ⟨rfl, rfl, rfl, Nat.le_refl _, fun _ _ _ => rfl, fun _ cs _ h => ⟨cs, h, rfl⟩, fun _ r h => ⟨r, h, rfl, rfl, rfl, rfl, rfl, rfl⟩, fun _ h => .inl h⟩
  have other : ∀ m x, upd hp n none m = some x → m ≠ n ∧ hp m = some x := fun m x hm => by
    by_cases hmn : m = n
    · subst hmn; rw [upd_same] at hm; exact absurd hm (by simp)
    · rw [upd_ne _ _ hmn] at hm; exact ⟨hmn, hm⟩
  refine ⟨h.step ev (Ext.refl β) (fun m x hm => ?_) (fun m1 m2 x y b' l1 l2 h1 h2 => h.inj m1 m2 x y b' l1 l2 (other m1 x h1).2 (other m2 y h2).2) (fun b hb => ?_) h.fresh, ev, Ext.refl β, fun b hb => ?_, fun b hb => hb.elim .inl (fun ⟨blk, ln, h1, h2⟩ => .inr (.inl ⟨n, blk, ln, h1, h2⟩))⟩
  · obtain ⟨hmn, hm⟩ := other m x hm
    refine .inl ⟨hm, fun b ln hb => ⟨rfl, ?_⟩⟩
    rintro (hz | ⟨blk, ln', h1, h2⟩)
    · exact (h.own m x b ln hm hb).2.1 hz
    · exact hmn (h.inj m n x blk b ln ln' hm h1 hb h2)
  · rcases hb with hb | ⟨blk, ln, h1, h2⟩
    · exact h.zlt b hb
    · exact (h.own n blk b ln h1 h2).1
  · obtain ⟨m, x, ln, h1, h2⟩ := hb
    exact .inl ⟨m, x, ln, (other m x h1).2, h2⟩

def dropO (o : Option Nat) (hp : Nat → Option Blk) : Nat → Option Blk := match o with | some n => upd hp n none | none => hp

/-- A row that has grown gets a name of its own; the elder one is gone. -/
theorem SatH.app (h : SatH E B Fr β Z hp w) (hB : B ≤ w.heap.size) {nm : Nat} (hf : Fr nm) {drop : Option Nat} {old : Option Nat} {s : Sem Value} {e size len : Nat} {get : Nat → Nat → CV} (ha : AppOk P Z w old s e size len get)
    (hold : ∀ b, old = some b → ∃ n blk ln, drop = some n ∧ hp n = some blk ∧ β n = .at b ln) :
    ∃ u w' l, s.run P w = .ok u w' ∧ Left E B (fun n => Fr n ∧ n ≠ nm) β Z hp w (upd β nm l) Z (upd (dropO drop hp) nm (some (.row e size len get))) w' ∧
      RA (upd β nm l) Z w' (.t (.c (.os nm size len))) u := by
  obtain ⟨u, w', hrun, hgr, hrows, hres⟩ := ha
  have hno := h.fresh nm hf
  have hnone := not_known h hno
  have ev : Evo (Own β hp) Z w Z w' := by
    refine ⟨hgr.os, hgr.tape, hgr.output, hgr.size, fun b hb hno => hgr.block b hb (fun e1 => hno ?_), fun b cs e' hb => ?_, fun b r hb => ⟨r, ?_, rfl, rfl, rfl, rfl, rfl, rfl⟩, fun _ h => h⟩
    · obtain ⟨n, blk, ln, _, h2, h3⟩ := hold b e1.symm
      exact ⟨n, blk, ln, h2, h3⟩
    · by_cases hbo : some b = old
      · obtain ⟨cs1, cs2, e1, h1, h2, h3⟩ := hrows b hbo.symm
        rw [hb] at h1; injection h1 with h1; injection h1 with h1 h1' _
        subst h1; subst h1'
        exact ⟨cs2, h2, h3⟩
      · exact ⟨cs, by rw [hgr.block b (Array.getElem?_eq_some_iff.1 hb).1 hbo]; exact hb, rfl⟩
    · by_cases hbo : some b = old
      · obtain ⟨cs1, cs2, e1, h1, h2, h3⟩ := hrows b hbo.symm
        rw [hb] at h1; simp at h1
      · rw [hgr.block b (Array.getElem?_eq_some_iff.1 hb).1 hbo]; exact hb
  have hd : ∀ m x, (dropO drop hp) m = some x → hp m = some x ∧ drop ≠ some m := fun m x hm => by
    cases drop with
    | none => exact ⟨hm, by simp⟩
    | some n =>
      by_cases hmn : m = n
      · subst hmn; simp only [dropO, upd_same] at hm; exact absurd hm (by simp)
      · simp only [dropO, upd_ne _ _ hmn] at hm; exact ⟨hm, by simp; exact fun e => hmn e.symm⟩
  have fin : ∀ l : Loc, RB (upd β nm l) Z w' l (.row e size len get) → (∀ b ln, l = .at b ln → b < w'.heap.size ∧ ¬ Z b ∧ B ≤ b ∧ (old = some b ∨ w.heap.size ≤ b)) →
      Left E B (fun n => Fr n ∧ n ≠ nm) β Z hp w (upd β nm l) Z (upd (dropO drop hp) nm (some (.row e size len get))) w' := by
    intro l hl hlb
    have hx := ext_upd (l := l) hno
    have other : ∀ m x, upd (dropO drop hp) nm (some (.row e size len get)) m = some x → m ≠ nm → hp m = some x ∧ drop ≠ some m := fun m x hm hmn => by
      rw [upd_ne _ _ hmn] at hm; exact hd m x hm
    have notold : ∀ m x b ln, hp m = some x → drop ≠ some m → β m = .at b ln → old ≠ some b := fun m x b ln hm hdm hb e1 => by
      obtain ⟨n, blk, ln', h1, h2, h3⟩ := hold b e1
      have := h.inj m n x blk b ln ln' hm h2 hb h3
      subst this; exact hdm h1
    refine ⟨h.step ev hx (fun n blk hn => ?_) (fun n m x y b l1 l2 hn hm hb1 hb2 => ?_) (fun b hb => Nat.lt_of_lt_of_le (h.zlt b hb) hgr.size) (fun n hn => by rw [upd_ne _ _ hn.2]; exact h.fresh n hn.1), ev, hx, fun b hb => ?_, fun b hb => .inl hb⟩
    · by_cases hnn : n = nm
      · subst hnn
        rw [upd_same] at hn; injection hn with hn; subst hn
        rw [upd_same]
        exact .inr ⟨hl, fun b ln hb => let ⟨q1, q2, q3, _⟩ := hlb b ln hb; ⟨q1, q2, q3⟩⟩
      · obtain ⟨h1, h2⟩ := other n blk hn hnn
        refine .inl ⟨h1, fun b ln hb => ?_⟩
        obtain ⟨g1, g2, _⟩ := h.own n blk b ln h1 hb
        exact ⟨hgr.block b g1 (fun e1 => notold n blk b ln h1 h2 hb e1.symm), g2⟩
    · have clash : ∀ m y b l2 ln, hp m = some y → drop ≠ some m → β m = .at b l2 → l = .at b ln → False := fun m y b l2 ln hm hdm hb e1 => by
        obtain ⟨_, _, _, q⟩ := hlb b ln e1
        rcases q with q | q
        · exact notold m y b l2 hm hdm hb q
        · exact absurd (h.own m y b l2 hm hb).1 (by omega)
      by_cases hnn : n = nm
      · by_cases hmm : m = nm
        · rw [hnn, hmm]
        · subst hnn
          rw [upd_same] at hb1
          obtain ⟨h1, h2⟩ := other m y hm hmm
          rw [upd_ne _ _ hmm] at hb2
          exact (clash m y b l2 l1 h1 h2 hb2 hb1).elim
      · by_cases hmm : m = nm
        · subst hmm
          rw [upd_same] at hb2
          obtain ⟨h1, h2⟩ := other n x hn hnn
          rw [upd_ne _ _ hnn] at hb1
          exact (clash n x b l1 l2 h1 h2 hb1 hb2).elim
        · rw [upd_ne _ _ hnn] at hb1
          rw [upd_ne _ _ hmm] at hb2
          exact h.inj n m x y b l1 l2 (other n x hn hnn).1 (other m y hm hmm).1 hb1 hb2
    · obtain ⟨n, blk, ln, h1, h2⟩ := hb
      by_cases hnn : n = nm
      · subst hnn
        rw [upd_same] at h2
        obtain ⟨_, _, _, q⟩ := hlb b ln h2
        rcases q with q | q
        · obtain ⟨n', blk', ln', _, g2, g3⟩ := hold b q
          exact .inl ⟨n', blk', ln', g2, g3⟩
        · exact .inr q
      · rw [upd_ne _ _ hnn] at h2
        exact .inl ⟨n, blk, ln, (other n blk h1 hnn).1, h2⟩
  rcases hres with ⟨rfl, rfl⟩ | ⟨b, cap, cs, rfl, hbo, hb, hl, hm, hs, hcell⟩
  · refine ⟨_, w', .virt, hrun, fin .virt rfl (fun b ln hb => by simp at hb), ?_⟩
    show ROs w' (upd β nm .virt nm) size 0 _
    rw [upd_same]; exact ⟨rfl, rfl⟩
  · refine ⟨_, w', .at b len, hrun, fin (.at b len) ⟨rfl, cs, hb, ?_, fun i hi j hj => ?_⟩ (fun b' ln hb' => ?_), ?_⟩
    · rw [hs]; exact Nat.mul_le_mul_right _ hl
    · obtain ⟨x, h1, h2⟩ := hcell i hi j hj
      exact ⟨x, h1, RP.mono ev h.calm h2⟩
    · injection hb' with e1 _; subst e1
      have hlt : b < w'.heap.size := (Array.getElem?_eq_some_iff.1 hb).1
      rcases hbo with hbo | ⟨hge, _⟩
      · obtain ⟨n, blk, ln', h1, h2, h3⟩ := hold b hbo
        obtain ⟨_, g2, g3⟩ := h.own n blk b ln' h2 h3
        exact ⟨hlt, g2, g3, .inl hbo⟩
      · exact ⟨hlt, fun hz => absurd (h.zlt b hz) (by omega), by omega, .inr hge⟩
    · show ROs w' (upd β nm (.at b len) nm) size len _
      rw [upd_same]
      exact ⟨rfl, cap, rfl, hl, hm, cs, e, hb, hs⟩

/-! ### An operation -/

def Plan.conds : Plan → List Prop
  | .ok c _ => c
  | .mk c _ _ => c
  | .wr c _ _ => c
  | .mv c _ _ _ => c
  | .fz c _ _ => c
  | .wz c _ _ _ => c
  | _ => []

/-- What a plan leaves: the heap, the value. `nm`: the name for a block that is made. -/
def Plan.eff (p : Plan) (nm : Nat) (hp : Nat → Option Blk) : Option ((Nat → Option Blk) × AV) :=
  match p with
  | .ok _ v => some (hp, v)
  | .mk _ b v => some (upd hp nm (some b), v nm)
  | .wr _ n b => some (upd hp n (some b), .any)
  | .mv _ n b v => some (upd (upd hp n none) nm (some b), v nm)
  | .fz _ n v => some (upd hp n none, v)
  | .wz _ n b m => some (upd (upd hp m none) n (some b), .any)
  | _ => none

/-- The operation runs to a value; the new state holds. -/
def OpOk (P : Program) (E : Env) (B : Nat) (Fr' : Nat → Prop) (β : Nat → Loc) (Z : Nat → Prop) (hp : Nat → Option Blk) (w : World) (s : Sem Next) (hp' : Nat → Option Blk) (v : AV) : Prop :=
  ∃ nx val w' β' Z', s.run P w = .ok nx w' ∧ (nx = .value val ∨ (nx = .skip ∧ val = undef)) ∧ Left E B Fr' β Z hp w β' Z' hp' w' ∧ RA β' Z' w' v val

theorem SatH.weaken (h : SatH E B Fr β Z hp w) (hf : ∀ n, Fr' n → Fr n) : SatH E B Fr' β Z hp w := ⟨h.rb, h.own, h.inj, h.zlt, fun n hn => h.fresh n (hf n hn), h.gl⟩

theorem Left.same (h : SatH E B Fr β Z hp w) (hf : ∀ n, Fr' n → Fr n) : Left E B Fr' β Z hp w β Z hp w := ⟨h.weaken hf, Evo.refl _ _ _, Ext.refl _, fun _ h => .inl h, fun _ h => .inl h⟩

theorem OpOk.val (h : SatH E B Fr β Z hp w) {nm : Nat} {s : Sem Value} {v : AV} (hs : ∃ u, s.run P w = .ok u w ∧ RA β Z w v u) : OpOk P E B (fun n => Fr n ∧ n ≠ nm) β Z hp w (do pure (.value (← s))) hp v := by
  obtain ⟨u, h1, h2⟩ := hs
  exact ⟨.value u, u, w, β, Z, by simp [h1], .inl rfl, Left.same h (fun n hn => hn.1), h2⟩

theorem OpOk.new (h : SatH E B Fr β Z hp w) (hB : B ≤ w.heap.size) {nm : Nat} (hf : Fr nm) {s : Sem Value} {blk : Blk} {v : Nat → AV} (hs : NewOk P β Z w s blk v) :
    OpOk P E B (fun n => Fr n ∧ n ≠ nm) β Z hp w (do pure (.value (← s))) (upd hp nm (some blk)) (v nm) := by
  obtain ⟨u, cs, e, ln, h1, h2, h3⟩ := hs
  refine ⟨.value u, u, _, _, Z, by simp [h1], .inl rfl, h.mk_block hB hf h2, h3 _ _ _ nm (upd_same _ _ _) ⟨cs, e, heap_alloc_new w _, rfl⟩⟩

theorem parts_ok (hg : GlOk E Z w) {tm : Nat → AV} {a : Act} (ht : ∀ t, RA β Z w (tm t) (a.tmps.getD t undef)) : ∀ (l : List (Nat × Operand)), RParts β Z w (l.map fun p => (p.1, evalO E tm p.2)) (l.map fun (i, x) => (i, a.eval x))
  | [] => trivial
  | (i, x) :: l => ⟨rfl, eval_ok hg ht x, parts_ok hg ht l⟩

theorem RL.get : ∀ {l : List TV} {r : List Value}, RL β Z w l r → r.length = l.length ∧ ∀ (i : Nat) (x : TV), l[i]? = some x → ∃ u, r[i]? = some u ∧ RT β Z w x u
  | [], [], _ => ⟨rfl, fun i x h => by simp at h⟩
  | x :: l, v :: r, h => by
    obtain ⟨h1, h2⟩ := RL.get h.2
    refine ⟨by simp [h1], fun i y hy => ?_⟩
    cases i with
    | zero => simp at hy; subst hy; exact ⟨v, rfl, h.1⟩
    | succ i => simp at hy; simpa using h2 i y hy
  | [], _ :: _, h => h.elim
  | _ :: _, [], h => by cases ‹TV› <;> exact h.elim

theorem func_ok (hg : GlOk E Z w) {tm : Nat → AV} {a : Act} (ht : ∀ t, RA β Z w (tm t) (a.tmps.getD t undef)) {fn : Fn} {first captured : Array Operand} {c : List Prop} {y : AV} (h : planFunc E tm fn first.toList captured.toList = .ok c y) : RA β Z w y (.func fn (first.map a.eval) (captured.map a.eval)) := by
  unfold planFunc Plan.cell at h
  split at h
  · rename_i f l cs hl hcs
    obtain ⟨hall, h⟩ := need_ok h (by simp)
    simp at h; obtain ⟨rfl, rfl⟩ := h
    have hcap : ∀ t ∈ cs, ∃ q, t = .c q := fun t ht => by
      have := List.all_eq_true.1 hall t ht
      cases t with
      | c q => exact ⟨q, rfl⟩
      | a n g => simp [isC] at this
    obtain ⟨a1, a2⟩ := RL.get (args_ok hg ht hl)
    obtain ⟨b1, b2⟩ := RL.get (args_ok hg ht hcs)
    refine ⟨first.map a.eval, captured.map a.eval, rfl, by simpa using a1, by simpa using b1, fun i hi => ?_, fun i s hs => ?_⟩
    · have hq : cs[i]? = some cs[i] := by simp [hi]
      obtain ⟨u, hu, hr⟩ := b2 i _ hq
      obtain ⟨q, hqq⟩ := hcap cs[i] (by simp)
      refine ⟨u, by simpa using hu, ?_⟩
      have : cs[i]?.getD (.c .any) = .c q := by simp [hi, hqq]
      rw [hqq] at hr
      simp only [this]
      exact hr
    · simp only [List.getElem?_map, Option.map_eq_some_iff] at hs
      obtain ⟨x, hx, rfl⟩ := hs
      obtain ⟨u, hu, hr⟩ := a2 i x hx
      refine ⟨u, by simpa using hu, ?_⟩
      have hgd : l[i]?.getD (.c .any) = x := by simp [hx]
      simp only [hgd]
      cases x with
      | c q => exact hr
      | a n g => exact hr
  · simp at h

theorem append_ok (hT : TabOk P E) (h : SatH E B Fr β Z hp w) (hB : B ≤ w.heap.size) {nm : Nat} (hf : Fr nm) {hpS : Nat → Option Blk} (hsub : ∀ n blk, hpS n = some blk → hp n = some blk)
    {t ty : Nat} {ti : TI} (ht : E.ty t = some ti) {x y : AV} {vx vy : Value} (hx : RA β Z w x vx) (hy : RA β Z w y vy) {hp' : Nat → Option Blk} {v : AV}
    (hc : AllP (planAppend E hpS ti x y).conds) (he : (planAppend E hpS ti x y).eff nm hp = some (hp', v)) :
    OpOk P E B (fun n => Fr n ∧ n ≠ nm) β Z hp w (do pure (.value (← Builtin.append_ #[t, t] ty #[vx, vy]))) hp' v := by
  obtain ⟨i, d, z, hF⟩ := tabTI_spec (hT t ti ht).1
  have hrbS : ∀ n blk, hpS n = some blk → RB β Z w (β n) blk := fun n blk hn => h.rb n blk (hsub n blk hn)
  generalize hp0 : planAppend E hpS ti x y = p at hc he
  unfold planAppend at hp0
  split at hp0
  · rename_i e hk
    obtain rfl := hF.slice hk
    split at hp0
    · rename_i te hte
      obtain ⟨i2, d2, z2, hF2⟩ := tabTI_spec (hT e te hte).1
      split at hp0
      · rename_i sy ly gy hrow
        obtain ⟨a, cap, rfl, hcell⟩ := rowOf_ok hrbS hy hrow
        split at hp0
        · -- onto nothing
          obtain rfl : vx = .slice none 0 0 := hx
          cases hb : (Nat.beq sy te.size && Nat.ble 1 te.size) with
          | false => rw [hb] at hp0; subst hp0; simp [need, Plan.eff] at he
          | true =>
            rw [hb] at hp0; subst hp0
            simp only [Bool.and_eq_true] at hb
            obtain rfl : sy = te.size := Nat.eq_of_beq_eq_true hb.1
            have hsz : 0 < te.size := Nat.le_of_ble_eq_true hb.2
            simp only [need, Plan.eff, Option.some.injEq, Prod.mk.injEq] at he
            obtain ⟨rfl, rfl⟩ := he
            obtain ⟨c1, c2, _⟩ := hc
            have ha := append_core (P := P) (Z := Z) (w := w) (ty := ty) hF.und hF2 hsz (v := .slice none 0 0) (n := 0) (gx := gy) (old := none) (.inl ⟨rfl, rfl, rfl⟩) (a := a) (m := ly) (c := cap) (gy := gy) hcell (by rw [Nat.zero_add]; exact c1) (by rw [Nat.zero_add]; exact c2)
            have hj : joinRow 0 gy gy = gy := by funext i; rw [joinRow_ge (Nat.zero_le _), Nat.sub_zero]
            rw [Nat.zero_add, hj] at ha
            obtain ⟨u, w', l, hr, hl, hv⟩ := h.app hB hf (drop := none) ha (fun b hb => by simp at hb)
            exact ⟨.value u, u, w', _, Z, by simp [hr], .inl rfl, hl, hv⟩
        · rename_i n size len
          have hx' : ROs w (β n) size len vx := hx
          split at hp0
          · rename_i e' size' len' gx hn
            cases hb : (Nat.beq e' e && Nat.beq size te.size && Nat.beq size' te.size && Nat.beq sy te.size && Nat.ble 1 te.size) with
            | false => rw [hb] at hp0; subst hp0; simp [need, Plan.eff] at he
            | true =>
              rw [hb] at hp0; subst hp0
              simp only [Bool.and_eq_true] at hb
              obtain ⟨⟨⟨⟨b1, b2⟩, b3⟩, b4⟩, b5⟩ := hb
              obtain rfl : e' = e := Nat.eq_of_beq_eq_true b1
              obtain rfl : size = te.size := Nat.eq_of_beq_eq_true b2
              obtain rfl : size' = te.size := Nat.eq_of_beq_eq_true b3
              obtain rfl : sy = te.size := Nat.eq_of_beq_eq_true b4
              have hsz : 0 < te.size := Nat.le_of_ble_eq_true b5
              simp only [need, Plan.eff, Option.some.injEq, Prod.mk.injEq] at he
              obtain ⟨rfl, rfl⟩ := he
              obtain ⟨c1, c2, _⟩ := hc
              have hrb := hrbS n _ hn
              cases hβ : β n with
              | no => rw [hβ] at hx'; exact hx'.elim
              | virt =>
                rw [hβ] at hx' hrb
                obtain ⟨rfl, rfl⟩ := hx'
                have h0 : len' = 0 := hrb
                subst h0
                have ha := append_core (P := P) (Z := Z) (w := w) (ty := ty) hF.und hF2 hsz (v := .slice none 0 0) (n := 0) (gx := gx) (old := none) (.inl ⟨rfl, rfl, rfl⟩) (a := a) (m := ly) (c := cap) (gy := gy) hcell c1 c2
                obtain ⟨u, w', l, hr, hl, hv⟩ := h.app hB hf (drop := some n) ha (fun b hb => by simp at hb)
                exact ⟨.value u, u, w', _, Z, by simp [hr], .inl rfl, hl, hv⟩
              | «at» b ln =>
                rw [hβ] at hx' hrb
                obtain ⟨rfl, capx, rfl, q1, q2, cs0, e0, q3, q4⟩ := hx'
                obtain ⟨rfl, cs, g1, g2, g3⟩ := hrb
                rw [q3] at g1; injection g1 with g1; injection g1 with g1 g1' _; subst g1; subst g1'
                have ha := append_core (P := P) (Z := Z) (w := w) (ty := ty) hF.und hF2 hsz (v := .slice (some ⟨b, 0, none⟩) ln capx) (n := ln) (gx := gx) (old := some b) (.inr ⟨b, capx, cs0, rfl, rfl, q3, q1, q2, q4, g3⟩) (a := a) (m := ly) (c := cap) (gy := gy) hcell c1 c2
                obtain ⟨u, w', l, hr, hl, hv⟩ := h.app hB hf (drop := some n) ha (fun b' hb' => by injection hb' with e1; subst e1; exact ⟨n, _, ln, rfl, hsub n _ hn, hβ⟩)
                exact ⟨.value u, u, w', _, Z, by simp [hr], .inl rfl, hl, hv⟩
          · subst hp0; simp [Plan.eff] at he
        · subst hp0; simp [Plan.eff] at he
      · split at hp0
        · obtain rfl : vy = .slice none 0 0 := hy
          split at hp0
          · obtain rfl : vx = .slice none 0 0 := hx
            subst hp0
            simp only [Plan.cell, Plan.eff, Option.some.injEq, Prod.mk.injEq] at he
            obtain ⟨rfl, rfl⟩ := he
            refine OpOk.val h ⟨.slice none 0 0, ?_, rfl⟩
            simp [Builtin.append_, hF.run_und, hF2.run_size, Builtin.lenOf, Builtin.firstCells]
          · rename_i n size len
            have hx' : ROs w (β n) size len vx := hx
            subst hp0
            simp only [Plan.cell, Plan.eff, Option.some.injEq, Prod.mk.injEq] at he
            obtain ⟨rfl, rfl⟩ := he
            refine OpOk.val h ⟨vx, ?_, hx⟩
            cases hβ : β n with
            | no => rw [hβ] at hx'; exact hx'.elim
            | virt =>
              rw [hβ] at hx'
              obtain ⟨rfl, rfl⟩ := hx'
              simp [Builtin.append_, hF.run_und, hF2.run_size, Builtin.lenOf, Builtin.firstCells]
            | «at» b ln =>
              rw [hβ] at hx'
              obtain ⟨rfl, capx, rfl, q1, _⟩ := hx'
              simp [Builtin.append_, hF.run_und, hF2.run_size, Builtin.lenOf, Builtin.firstCells, q1, storeCells]
          · subst hp0; simp [Plan.eff] at he
        · subst hp0; simp [Plan.eff] at he
    · subst hp0; simp [Plan.eff] at he
  · subst hp0; simp [Plan.eff] at he

/-! #### Slice expressions -/

def RO (β : Nat → Loc) (Z : Nat → Prop) (w : World) : Option AV → Option Value → Prop
  | none, none => True
  | some x, some v => RA β Z w x v
  | _, _ => False

theorem bndHi_some {len : Nat} {x : AV} {mx : Option AV} {h : Int} (e : bndHi len (some x) mx = some h) : ∃ k, x = .t (.c (.int k h)) := by
  unfold bndHi at e
  split at e
  · simp_all
  · simp_all
  · simp_all

theorem bounds_ok {len cap : Nat} {isS : Bool} {lo hi mx : Option AV} {vlo vhi vmx : Option Value} (hlo : RO β Z w lo vlo) (hhi : RO β Z w hi vhi) (hmx : RO β Z w mx vmx) (hlc : len ≤ cap)
    {l h : Int} {m : Option Int} (b1 : bndLo lo = some l) (b2 : bndHi len hi mx = some h) (b3 : bndMx mx = some m) (hc : AllP (bndConds l h len m)) :
    ∃ mm : Nat, (Instr.sliceBounds isS len cap vlo vhi vmx).run P w = .ok (l.toNat, h.toNat, mm) w ∧ l.toNat ≤ h.toNat ∧ h.toNat ≤ mm ∧ h.toNat ≤ len ∧ mm ≤ cap := by
  have hl : ∃ q, vlo = q ∧ ((q = none ∧ l = 0) ∨ ∃ k, q = some (.int k l)) := by
    refine ⟨vlo, rfl, ?_⟩
    cases lo with
    | none => cases vlo with
      | none => simp [bndLo] at b1; exact .inl ⟨rfl, b1.symm⟩
      | some v => exact hlo.elim
    | some x => cases vlo with
      | none => exact hlo.elim
      | some v =>
        unfold bndLo at b1
        split at b1
        · rename_i he; simp at he
        · rename_i k n he
          injection b1 with b1; subst b1; injection he with he; subst he
          exact .inr ⟨k, by rw [int_of (β := β) (Z := Z) (w := w) hlo]⟩
        · simp at b1
  have hm : ∃ q, vmx = q ∧ ((q = none ∧ m = none ∧ mx = none) ∨ ∃ k n, q = some (.int k n) ∧ m = some n) := by
    refine ⟨vmx, rfl, ?_⟩
    cases mx with
    | none => cases vmx with
      | none => simp [bndMx] at b3; exact .inl ⟨rfl, b3.symm, rfl⟩
      | some v => exact hmx.elim
    | some x => cases vmx with
      | none => exact hmx.elim
      | some v =>
        unfold bndMx at b3
        split at b3
        · rename_i he; simp at he
        · rename_i k n he
          injection b3 with b3; injection he with he; subst he
          exact .inr ⟨k, n, by rw [int_of (β := β) (Z := Z) (w := w) hmx], b3.symm⟩
        · simp at b3
  have hh : (vhi = none ∧ h = len ∧ mx = none) ∨ ∃ k, vhi = some (.int k h) := by
    cases hi with
    | none => cases vhi with
      | none =>
        cases mx with
        | none => simp [bndHi] at b2; exact .inl ⟨rfl, b2.symm, rfl⟩
        | some x => simp [bndHi] at b2
      | some v => exact hhi.elim
    | some x => cases vhi with
      | none => exact hhi.elim
      | some v =>
        obtain ⟨k, rfl⟩ := bndHi_some b2
        exact .inr ⟨k, by rw [int_of (β := β) (Z := Z) (w := w) hhi]⟩
  obtain ⟨_, rfl, hl⟩ := hl
  obtain ⟨_, rfl, hm⟩ := hm
  rcases hm with ⟨rfl, rfl, rfl⟩ | ⟨km, n, rfl, rfl⟩
  · obtain ⟨c1, c2, c3, _⟩ := hc
    refine ⟨cap, ?_, by omega, by omega, by omega, Nat.le_refl _⟩
    have hh0 : 0 ≤ h := by omega
    obtain ⟨h', rfl⟩ := Int.eq_ofNat_of_zero_le hh0
    obtain ⟨l', rfl⟩ := Int.eq_ofNat_of_zero_le c1
    have hcap : h' ≤ cap := by omega
    have hlh : l' ≤ h' := by omega
    have hl0 : ∀ x : Nat, (x : Int) = 0 → x = 0 := fun x hx => by omega
    rcases hh with ⟨rfl, e, _⟩ | ⟨kh, rfl⟩
    · have e' : h' = len := by omega
      subst e'
      rcases hl with ⟨rfl, e2⟩ | ⟨kl, rfl⟩
      · have := hl0 _ e2; subst this; simp [Instr.sliceBounds]
      · simp [Instr.sliceBounds, Instr.sliceBound, asIntOf, hlh]
    · rcases hl with ⟨rfl, e2⟩ | ⟨kl, rfl⟩
      · have := hl0 _ e2; subst this; simp [Instr.sliceBounds, Instr.sliceBound, asIntOf, hcap]
      · simp [Instr.sliceBounds, Instr.sliceBound, asIntOf, hcap, hlh]
  · obtain ⟨c1, c2, c3, c4, _⟩ := hc
    refine ⟨n.toNat, ?_, by omega, by omega, by omega, by omega⟩
    have hh0 : 0 ≤ h := by omega
    have hn0 : 0 ≤ n := by omega
    obtain ⟨h', rfl⟩ := Int.eq_ofNat_of_zero_le hh0
    obtain ⟨l', rfl⟩ := Int.eq_ofNat_of_zero_le c1
    obtain ⟨n', rfl⟩ := Int.eq_ofNat_of_zero_le hn0
    have hncap : n' ≤ cap := by omega
    have hlh : l' ≤ h' := by omega
    have hhn : h' ≤ n' := by omega
    have hl0 : ∀ x : Nat, (x : Int) = 0 → x = 0 := fun x hx => by omega
    rcases hh with ⟨rfl, _, e⟩ | ⟨kh, rfl⟩
    · subst e; simp [bndMx] at b3
    · rcases hl with ⟨rfl, e2⟩ | ⟨kl, rfl⟩
      · have := hl0 _ e2; subst this; simp [Instr.sliceBounds, Instr.sliceBound, asIntOf, hncap, hhn]
      · simp [Instr.sliceBounds, Instr.sliceBound, asIntOf, hncap, hhn, hlh]

theorem cutRow_eq {lo : Option AV} {l : Int} (hl : bndLo lo = some l) (get : Nat → Nat → CV) (i : Nat) : cutRow lo l get i = get (i + l.toNat) := by
  cases lo with
  | none => simp [bndLo] at hl; subst hl; rfl
  | some x => rfl

/-- A cut of memory that stays. -/
theorem cut_ok {a : Option Addr} {len size : Nat} {get : Nat → Nat → CV} (hg : 0 < len → ∃ b o, a = some ⟨b, o, none⟩ ∧ Z b ∧ ∀ i, i < len → ∀ j, j < size → ∃ u, w.cell? ⟨b, o + (i * size + j), none⟩ = some u ∧ RP Z w (get i j) u)
    {lo : Option AV} {l : Int} (hl : bndLo lo = some l) {h mm : Nat} (h1 : l.toNat ≤ h) (h2 : h ≤ mm) (h3 : h ≤ len) :
    RP Z w (.vs size (h - l.toNat) (cutRow lo l get)) (.slice (if mm = l.toNat then a else a.map (·.add (l.toNat * size))) (h - l.toNat) (mm - l.toNat)) := by
  refine ⟨_, _, rfl, by omega, fun hpos => ?_⟩
  obtain ⟨b, o, rfl, hz, hcell⟩ := hg (by omega)
  refine ⟨b, o + l.toNat * size, ?_, hz, fun i hi j hj => ?_⟩
  · rw [if_neg (by omega)]; simp [addr_add]
  · obtain ⟨u, hu, hr⟩ := hcell (i + l.toNat) (by omega) j hj
    refine ⟨u, ?_, by rw [cutRow_eq hl]; exact hr⟩
    rw [← hu, Nat.add_mul]
    congr 2; omega

theorem slice_ok (hT : TabOk P E) (h : SatH E B Fr β Z hp w) {nm : Nat} {hpS : Nat → Option Blk} (hsub : ∀ n blk, hpS n = some blk → hp n = some blk)
    {t : Nat} {ti : TI} (ht : E.ty t = some ti) {x : AV} {lo hi mx : Option AV} {vx : Value} {vlo vhi vmx : Option Value} (hx : RA β Z w x vx) (hlo : RO β Z w lo vlo) (hhi : RO β Z w hi vhi) (hmx : RO β Z w mx vmx)
    {hp' : Nat → Option Blk} {v : AV} (hc : AllP (planSlice E hpS ti x lo hi mx).conds) (he : (planSlice E hpS ti x lo hi mx).eff nm hp = some (hp', v)) :
    OpOk P E B (fun n => Fr n ∧ n ≠ nm) β Z hp w (do pure (.value (← Instr.sliceAt t vx vlo vhi vmx))) hp' v := by
  obtain ⟨i, d, z, hF⟩ := tabTI_spec (hT t ti ht).1
  generalize hp0 : planSlice E hpS ti x lo hi mx = p at hc he
  unfold planSlice at hp0
  split at hp0
  · rename_i e size len get hk
    obtain rfl := hF.slice hk
    split at hp0
    · rename_i l hh m te e1 e2 e3 hte
      obtain ⟨i2, d2, z2, hF2⟩ := tabTI_spec (hT e te hte).1
      cases hb : Nat.beq te.size size with
      | false => rw [hb] at hp0; subst hp0; simp [need, Plan.eff] at he
      | true =>
        rw [hb] at hp0; subst hp0
        obtain rfl : te.size = size := Nat.eq_of_beq_eq_true hb
        simp only [need, Plan.cell, Plan.eff, Option.some.injEq, Prod.mk.injEq] at he
        obtain ⟨rfl, rfl⟩ := he
        obtain ⟨a, cap, rfl, hlc, hg⟩ := hx
        obtain ⟨mm, hr, q1, q2, q3, q4⟩ := bounds_ok (P := P) (isS := true) hlo hhi hmx hlc e1 e2 e3 hc
        refine OpOk.val h ⟨_, ?_, RC.of_RP (cut_ok hg e1 q1 q2 q3)⟩
        simp [Instr.sliceAt, Instr.slice, hF.run_und, hr, hF2.run_size]
    · subst hp0; simp [Plan.eff] at he
  · rename_i e n sz len0 hk
    obtain rfl := hF.slice hk
    have hx' : ROs w (β n) sz len0 vx := hx
    split at hp0
    · rename_i e0 size len get hn
      split at hp0
      · rename_i l hh m te e1 e2 e3 hte
        obtain ⟨i2, d2, z2, hF2⟩ := tabTI_spec (hT e te hte).1
        cases hb : (Nat.beq te.size size && Nat.beq sz size) with
        | false => rw [hb] at hp0; subst hp0; simp [need, Plan.eff] at he
        | true =>
          rw [hb] at hp0; subst hp0
          simp only [Bool.and_eq_true] at hb
          obtain rfl : te.size = size := Nat.eq_of_beq_eq_true hb.1
          obtain rfl : sz = te.size := Nat.eq_of_beq_eq_true hb.2
          simp only [need, Plan.eff, Option.some.injEq, Prod.mk.injEq] at he
          obtain ⟨rfl, rfl⟩ := he
          have hnp := hsub n _ hn
          have hrb := h.rb n _ hnp
          have hfz := h.freeze n
          have main : ∀ a cap, vx = .slice a len cap → len ≤ cap → (0 < len → ∃ b o, a = some ⟨b, o, none⟩ ∧ (Z b ∨ (∃ blk ln, hp n = some blk ∧ β n = .at b ln)) ∧ ∀ i, i < len → ∀ j, j < te.size → ∃ u, w.cell? ⟨b, o + (i * te.size + j), none⟩ = some u ∧ RP Z w (get i j) u) →
              OpOk P E B (fun n => Fr n ∧ n ≠ nm) β Z hp w (do pure (.value (← Instr.sliceAt t vx vlo vhi vmx))) (upd hp n none) (.t (.c (.vs te.size (hh.toNat - l.toNat) (cutRow lo l get)))) := by
            intro a cap ev hlc hg
            subst ev
            obtain ⟨mm, hr, q1, q2, q3, q4⟩ := bounds_ok (P := P) (isS := true) hlo hhi hmx hlc e1 e2 e3 hc
            refine ⟨_, _, w, β, _, ?_, .inl rfl, ⟨hfz.sat.weaken (fun n hn => hn.1), hfz.ev, hfz.ext, hfz.own, hfz.zown⟩, RC.of_RP (cut_ok (a := a) (len := len) (get := get) (fun hpos => ?_) e1 q1 q2 q3)⟩
            · simp [Instr.sliceAt, Instr.slice, hF.run_und, hr, hF2.run_size]
            · obtain ⟨b, o, h1, h2, h3⟩ := hg hpos
              exact ⟨b, o, h1, h2, fun i hi j hj => let ⟨u, hu, hr⟩ := h3 i hi j hj; ⟨u, hu, RP.mono hfz.ev h.calm hr⟩⟩
          cases hβ : β n with
          | no => rw [hβ] at hx'; exact hx'.elim
          | virt =>
            rw [hβ] at hx' hrb
            obtain ⟨rfl, rfl⟩ := hx'
            have h0 : len = 0 := hrb
            subst h0
            exact main none 0 rfl (Nat.le_refl _) (fun h => absurd h (Nat.lt_irrefl 0))
          | «at» b ln =>
            rw [hβ] at hx' hrb
            obtain ⟨rfl, cap, rfl, q1, _⟩ := hx'
            obtain ⟨rfl, cs, g1, g2, g3⟩ := hrb
            refine main _ cap rfl q1 (fun _ => ⟨b, 0, rfl, .inr ⟨_, _, hnp, hβ⟩, fun i hi j hj => ?_⟩)
            obtain ⟨u, hu, hr⟩ := g3 i hi j hj
            exact ⟨u, by rw [cell_of_heap g1, Nat.zero_add]; exact hu, hr⟩
      · subst hp0; simp [Plan.eff] at he
    · subst hp0; simp [Plan.eff] at he
  · rename_i len e n hk
    obtain ⟨rfl, hgd⟩ := hF.array hk
    obtain ⟨b, ln, hb0, rfl⟩ := hx
    split at hp0
    · rename_i k get hn
      split at hp0
      · rename_i l hh m te e1 e2 e3 hte
        obtain ⟨i2, d2, z2, hF2⟩ := tabTI_spec (hT e te hte).1
        cases hb : (Nat.ble (len * te.size) k && allPure get k) with
        | false => rw [hb] at hp0; subst hp0; simp [need, Plan.eff] at he
        | true =>
          rw [hb] at hp0; subst hp0
          simp only [Bool.and_eq_true] at hb
          have hle : len * te.size ≤ k := Nat.le_of_ble_eq_true hb.1
          simp only [need, Plan.eff, Option.some.injEq, Prod.mk.injEq] at he
          obtain ⟨rfl, rfl⟩ := he
          have hnp := hsub n _ hn
          have hrb := h.rb n _ hnp
          have hfz := h.freeze n
          rw [hb0] at hrb
          obtain ⟨cs, e', g1, g2, g3⟩ := hrb
          obtain ⟨mm, hr, q1, q2, q3, q4⟩ := bounds_ok (P := P) (isS := false) hlo hhi hmx (Nat.le_refl len) e1 e2 e3 hc
          refine ⟨_, _, w, β, _, ?_, .inl rfl, ⟨hfz.sat.weaken (fun n hn => hn.1), hfz.ev, hfz.ext, hfz.own, hfz.zown⟩, RC.of_RP (cut_ok (a := some ⟨b, 0, none⟩) (len := len) (get := fun i j => get (i * te.size + j)) (fun _ => ?_) e1 q1 q2 q3)⟩
          · simp [Instr.sliceAt, hF.run_und, hr, hF2.run_size, Instr.sureAddr]
            split <;> rfl
          · refine ⟨b, 0, rfl, .inr ⟨_, _, hnp, hb0⟩, fun i hi j hj => ?_⟩
            have hij := row_bound hi hj
            obtain ⟨u, hu, hr⟩ := g3 (i * te.size + j) (by omega)
            exact ⟨u, by rw [cell_of_heap g1, Nat.zero_add]; exact hu, RP.mono hfz.ev h.calm (RP.of_RC (allPure_get hb.2 _ (by omega)) hr)⟩
      · subst hp0; simp [Plan.eff] at he
    · subst hp0; simp [Plan.eff] at he
  · subst hp0; simp [Plan.eff] at he
end
end Go.Sx
