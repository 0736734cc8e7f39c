/- The framework Sx, part 6c: calls of functions that work on their callers' blocks and give them back. -/
import Derived.Test.YthcplmlkgaiggaaSxRec
set_option linter.unusedSimpArgs false
set_option linter.unusedVariables false
namespace Go.Sx
section
variable {P : Program} {E : Env} {β β' : Nat → Loc} {Z : Nat → Prop} {hp : Hp} {w : World} {r : Nat → Nat}

theorem renCV_ok (h : ∀ m, β m ≠ .no → β' (r m) = β m) : ∀ {x : CV} {v : Value}, RC β Z w x v → RC β' Z w (renCV r x) v := by
  intro x
  have at_ : ∀ {n b ln}, β n = .at b ln → β' (r n) = .at b ln := fun {n b ln} e => by rw [h n (by rw [e]; simp), e]
  induction x with
  | ptr n off => rintro v ⟨b, ln, hb, rfl⟩; exact ⟨b, ln, at_ hb, rfl⟩
  | ep n size i off => rintro v ⟨b, ln, hb, rfl, hi⟩; exact ⟨b, ln, at_ hb, rfl, hi⟩
  | ax n off i sz len fo => rintro v ⟨b, ln, hb, rfl, hi⟩; exact ⟨b, ln, at_ hb, rfl, hi⟩
  | mp n => rintro v ⟨b, ln, hb, rfl⟩; exact ⟨b, ln, at_ hb, rfl⟩
  | yl n => rintro v ⟨b, ln, hb, rfl⟩; exact ⟨b, ln, at_ hb, rfl⟩
  | os n size len =>
    intro v hv
    have hv' : ROs w (β n) size len v := hv
    show ROs w (β' (r n)) size len v
    rw [h n (by intro e; rw [e] at hv'; exact hv')]
    exact hv'
  | fn f sh first nc cap ih1 ih2 =>
    rintro v ⟨fs, cs, rfl, h1, h2, h3, h4⟩
    refine ⟨fs, cs, rfl, h1, h2, fun i hi => ?_, fun i s hs => ?_⟩
    · obtain ⟨u, hu, hr⟩ := h3 i hi
      exact ⟨u, hu, ih2 i hr⟩
    · obtain ⟨u, hu, hr⟩ := h4 i s hs
      refine ⟨u, hu, ?_⟩
      cases s with
      | none => exact ih1 i 0 hr
      | some n =>
        obtain ⟨xs, rfl, hx, hy⟩ := hr
        exact ⟨xs, rfl, hx, fun j hj => let ⟨y, hy1, hy2⟩ := hy j hj; ⟨y, hy1, ih1 i j hy2⟩⟩
  | ip n get => intro v hv; exact hv
  | vs size len get => intro v hv; exact hv
  | _ => intro v hv; exact hv

theorem renTV_ok (h : ∀ m, β m ≠ .no → β' (r m) = β m) {x : TV} {v : Value} (hv : RT β Z w x v) : RT β' Z w (renTV r x) v := by
  cases x with
  | c x => exact renCV_ok h hv
  | a n get =>
    obtain ⟨cs, rfl, h1, h2⟩ := hv
    exact ⟨cs, rfl, h1, fun j hj => let ⟨u, hu, hr⟩ := h2 j hj; ⟨u, hu, renCV_ok h hr⟩⟩

theorem renAV_ok (h : ∀ m, β m ≠ .no → β' (r m) = β m) {x : AV} {v : Value} (hv : RA β Z w x v) : RA β' Z w (renAV r x) v := by
  cases x with
  | any => trivial
  | t x => exact renTV_ok h hv
  | tup l =>
    obtain ⟨vs, rfl, h1, h2⟩ := hv
    refine ⟨vs, rfl, by simp [h1], fun i x hx => ?_⟩
    rw [List.getElem?_map] at hx
    cases hy : l[i]? with
    | none => rw [hy] at hx; cases hx
    | some y =>
      rw [hy] at hx
      simp only [Option.map_some, Option.some.injEq] at hx
      subst hx
      obtain ⟨u, hu, hr⟩ := h2 i y hy
      exact ⟨u, hu, renTV_ok h hr⟩

theorem renBlk_ok (h : ∀ m, β m ≠ .no → β' (r m) = β m) {l : Loc} {b : Blk} (hv : RB β Z w l b) : RB β' Z w l (renBlk r b) := by
  cases l with
  | no => cases b <;> exact hv.elim
  | virt => cases b <;> first | exact hv | exact hv.elim
  | «at» k ln =>
    cases b with
    | box n get =>
      obtain ⟨cs, e, h1, h2, h3⟩ := hv
      exact ⟨cs, e, h1, h2, fun j hj => let ⟨u, hu, hr⟩ := h3 j hj; ⟨u, hu, renCV_ok h hr⟩⟩
    | row => exact hv
    | mp => exact hv
    | mpI => exact hv
    | lp fid sz tm ps asg body busy pend =>
      obtain ⟨q, h1, h2, h3, h4⟩ := hv
      exact ⟨q, h1, h2, fun t => renAV_ok h (h3 t), h4⟩

theorem canonHp_some : ∀ {l : List (RW × Blk)} {m : Nat}, m < lenR l → ∃ b, canonHp l m = some b
  | [], m, h => absurd h (Nat.not_lt_zero m)
  | (_, b) :: l, 0, _ => ⟨b, rfl⟩
  | _ :: l, m + 1, h => canonHp_some (l := l) (by simpa [lenR] using h)

theorem canonB_lt : ∀ {l : List Blk} {m : Nat} {b : Blk}, canonB l m = some b → m < lenB l
  | [], _, _, h => by cases h
  | _ :: _, 0, _, _ => by simp [lenB]
  | _ :: l, m + 1, b, h => by have := canonB_lt (l := l) (m := m) (b := b) h; simp [lenB]; omega

/-- The blocks that are given back. -/
theorem putBlks_get {ns : List Nat} : ∀ {l : List Blk} {n : Nat} {blk : Blk}, putBlks r ns l hp n = some blk → (∃ m b, nthN ns m = some n ∧ canonB l m = some b ∧ blk = renBlk r b) ∨ ((∀ m, m < lenB l → nthN ns m ≠ some n) ∧ hp n = some blk) := by
  induction ns with
  | nil => intro l n blk h; exact .inr ⟨fun m _ e => (by cases e), (by cases l <;> exact h)⟩
  | cons k ns ih =>
    intro l n blk h
    cases l with
    | nil => exact .inr ⟨fun m hm => absurd hm (Nat.not_lt_zero m), h⟩
    | cons b l =>
      have h : upd (putBlks r ns l hp) k (some (renBlk r b)) n = some blk := h
      by_cases e : n = k
      · subst e
        rw [upd_same] at h
        injection h with h
        exact .inl ⟨0, b, rfl, rfl, h.symm⟩
      · rw [upd_ne _ _ e] at h
        rcases ih h with ⟨m, b', h1, h2, h3⟩ | ⟨h1, h2⟩
        · exact .inl ⟨m + 1, b', h1, h2, h3⟩
        · refine .inr ⟨fun m hm => ?_, h2⟩
          cases m with
          | zero => intro e2; simp only [nthN, Option.some.injEq] at e2; exact e e2.symm
          | succ m => exact h1 m (by simp [lenB] at hm; omega)

theorem putBlks_frame {ns : List Nat} : ∀ {l : List Blk} {n : Nat}, n ∉ ns → putBlks r ns l hp n = hp n := by
  induction ns with
  | nil => intro l n _; cases l <;> rfl
  | cons k ns ih =>
    intro l n hn
    simp only [List.mem_cons, not_or] at hn
    cases l with
    | nil => rfl
    | cons b l =>
      show upd (putBlks r ns l hp) k (some (renBlk r b)) n = hp n
      rw [upd_ne _ _ hn.1, ih hn.2]

theorem kept_ok {f : FuncId} {R : KSpec} (hR : ∀ g, R.ok g → SemK P E f R g) {args : List TV} {x : HS} {K : AV → Hp → Nat → List Nat → Prop} (h : keptCall R args x.hp x.nx x.wl K) (hok : x.ok E) {vs : List Value} (hr : RL x.β x.Z x.w args vs) :
    CallsIn Fence.wide 0 P f vs.toArray x.w (CallPost E x K) := by
  obtain ⟨g, hg, h⟩ := h
  split at h
  · rename_i ns hns
    obtain ⟨hap, htv, hbl, hk⟩ := h
    have hap := chk_iff.1 hap
    obtain ⟨hlen, hget⟩ := recBlks_get hbl
    let βc : Nat → Loc := fun m => match nthN ns m with | some n => x.β n | none => .no
    have hρ : Named (recSrc ns) x.β βc := by
      refine ⟨fun m n e => ?_, fun m e => ?_⟩
      · unfold recSrc at e
        show (match nthN ns m with | some n => x.β n | none => .no) = x.β n
        cases hn : nthN ns m with
        | none => rw [hn] at e; cases e
        | some k => rw [hn] at e; injection e with e; subst e; rfl
      · unfold recSrc at e
        split at e <;> cases e
    have βc_of : ∀ {m n}, nthN ns m = some n → βc m = x.β n := fun {m n} e => by show (match nthN ns m with | some n => x.β n | none => .no) = _; rw [e]
    have hren : ∀ m, βc m ≠ .no → x.β (nameAt ns m) = βc m := fun m hm => by
      show x.β (match nthN ns m with | some n => n | none => 0) = βc m
      cases hn : nthN ns m with
      | none => exact absurd (show (match nthN ns m with | some n => x.β n | none => .no) = .no by rw [hn]) hm
      | some n => exact (βc_of hn).symm
    have hsat : SatH E 0 (fun m => lenR (R.hp g) ≤ m) βc x.Z (canonHp (R.hp g)) x.w := by
      refine ⟨fun m blk hm => ?_, fun m blk b ln hm hb => ?_, fun m m' b1 b2 b l1 l2 hm hm' hb hb' => ?_, hok.zlt, fun m hm => ?_, hok.gl⟩
      · obtain ⟨n, b1, e1, e2, e3⟩ := hget m blk hm
        rw [βc_of e1]
        exact fitBlk_ok hρ e3 (hok.rb n b1 e2)
      · obtain ⟨n, b1, e1, e2, e3⟩ := hget m blk hm
        rw [βc_of e1] at hb
        exact hok.own n b1 b ln e2 hb
      · obtain ⟨n, c1, e1, e2, _⟩ := hget m b1 hm
        obtain ⟨n', c1', e1', e2', _⟩ := hget m' b2 hm'
        rw [βc_of e1] at hb
        rw [βc_of e1'] at hb'
        have := hok.inj n n' c1 c1' b l1 l2 e2 e2' hb hb'
        subst this
        exact apart_inj hap e1 e1'
      · show (match nthN ns m with | some n => x.β n | none => .no) = .no
        cases hn : nthN ns m with
        | none => rfl
        | some n => have := nthN_lt hn; have hm' : lenR (R.hp g) ≤ m := hm; rw [lenR_eq] at hm'; omega
    have ownc : ∀ b, Own βc (canonHp (R.hp g)) b → ∃ n b1 ln, n ∈ ns ∧ x.hp n = some b1 ∧ x.β n = .at b ln := fun b ⟨m, blk, ln, hm, hb⟩ => by
      obtain ⟨n, b1, e1, e2, _⟩ := hget m blk hm
      rw [βc_of e1] at hb
      exact ⟨n, b1, ln, nthN_mem e1, e2, hb⟩
    have ownx : ∀ b, Own βc (canonHp (R.hp g)) b → Own x.β x.hp b := fun b hb => let ⟨n, b1, ln, _, h2, h3⟩ := ownc b hb; ⟨n, b1, ln, h2, h3⟩
    have away : ∀ {n blk b ln}, n ∉ ns → x.hp n = some blk → x.β n = .at b ln → ¬ Own βc (canonHp (R.hp g)) b := fun {n blk b ln} h1 h2 h3 hb => by
      obtain ⟨n', b1, ln', k1, k2, k3⟩ := ownc b hb
      have := hok.inj n n' blk b1 b ln ln' h2 k2 h3 k3
      subst this
      exact h1 k1
    refine CallsIn.mono (hR g hg x.Z βc x.w vs hsat (recTVs_ok hρ htv hr)) fun e w' ⟨val, d, Z', he, hpost, hfl, hfin, hv, ev, hz, hzlt, hgl⟩ => ?_
    have mem_nth : ∀ {n}, n ∈ ns → ∃ m, m < lenB (R.fin g d) ∧ nthN ns m = some n := by
      have aux : ∀ (l : List Nat) (n : Nat), n ∈ l → ∃ m, m < l.length ∧ nthN l m = some n := by
        intro l
        induction l with
        | nil => intro n h; cases h
        | cons k l ih =>
          intro n h
          rcases List.mem_cons.1 h with rfl | h
          · exact ⟨0, by simp, rfl⟩
          · obtain ⟨m, h1, h2⟩ := ih n h
            exact ⟨m + 1, by simp; omega, h2⟩
      intro n hn
      obtain ⟨m, h1, h2⟩ := aux ns n hn
      exact ⟨m, by rw [hfl, lenR_eq, ← hlen]; exact h1, h2⟩
    have old : ∀ n blk, putBlks (nameAt ns) ns (R.fin g d) x.hp n = some blk → (∃ m b, nthN ns m = some n ∧ canonB (R.fin g d) m = some b ∧ blk = renBlk (nameAt ns) b) ∨ (n ∉ ns ∧ x.hp n = some blk) := fun n blk hn => by
      rcases putBlks_get hn with h | ⟨h1, h2⟩
      · exact .inl h
      · exact .inr ⟨fun hm => let ⟨m, k1, k2⟩ := mem_nth hm; h1 m k1 k2, h2⟩
    have was : ∀ {n blk}, putBlks (nameAt ns) ns (R.fin g d) x.hp n = some blk → ∃ b0, x.hp n = some b0 := fun {n blk} hn => by
      rcases old n blk hn with ⟨m, b, k1, k2, k3⟩ | ⟨_, k2⟩
      · have hm := canonB_lt k2
        rw [hfl] at hm
        obtain ⟨c, hc⟩ := canonHp_some hm
        obtain ⟨n', b1, e1, e2, _⟩ := hget m c hc
        rw [k1] at e1; injection e1 with e1; subst e1
        exact ⟨b1, e2⟩
      · exact ⟨_, k2⟩
    refine ⟨val, _, ⟨x.β, Z', putBlks (nameAt ns) ns (R.fin g d) x.hp, x.nx + 4, ns ++ x.wl, w'⟩, he, hk d hpost, rfl, ⟨fun n blk hn => ?_, fun n blk b ln hn hb => ?_, fun n m b1 b2 b l1 l2 hn hm hb hb' => ?_, hzlt, fun n hn => hok.fresh n (by have hn : x.nx + 4 ≤ n := hn; show x.nx ≤ n; omega), hgl⟩, ?_, ⟨ev.weaken ownx, Ext.refl _, fun b hb => ?_, fun b hb => ?_, Nat.le_add_right _ _, fun n hn => List.mem_append.2 (.inr hn), fun n hn hw => ?_⟩⟩
    · rcases old n blk hn with ⟨m, b, k1, k2, rfl⟩ | ⟨k2, k3⟩
      · have := renBlk_ok hren (hfin m b k2)
        rw [βc_of k1] at this
        exact this
      · exact RB.mono ev hsat.calm (Ext.refl _) (fun b ln hb => ev.same b (hok.own n blk b ln k3 hb).1 (away k2 k3 hb)) (hok.rb n blk k3)
    · obtain ⟨b0, h0⟩ := was hn
      obtain ⟨q1, q2, q3⟩ := hok.own n b0 b ln h0 hb
      refine ⟨Nat.lt_of_lt_of_le q1 ev.size, fun hzb => ?_, q3⟩
      rcases hz b hzb with h | h
      · exact q2 h
      · exact absurd q1 (Nat.not_lt.2 h)
    · obtain ⟨c1, h1⟩ := was hn
      obtain ⟨c2, h2⟩ := was hm
      exact hok.inj n m c1 c2 b l1 l2 h1 h2 hb hb'
    · exact RA.mono (Evo.refl (fun _ => False) Z' w') (fun b hb => ⟨hzlt b hb, fun h => h⟩) (fun n hn => absurd rfl hn) hv
    · obtain ⟨n, blk, ln, hn, hb⟩ := hb
      obtain ⟨b0, h0⟩ := was hn
      exact .inl ⟨n, b0, ln, h0, hb⟩
    · rcases hz b hb with h | h
      · exact .inl h
      · exact .inr (.inr h)
    · simp only [List.mem_append, not_or] at hw
      exact putBlks_frame hw.1
  · exact h.elim

theorem finFits_get {len : Nat} : ∀ {l : List Blk} {k m : Nat} {b : Blk}, finFits len hp k l → canonB l m = some b → ∃ b1, hp (k + m) = some b1 ∧ fitBlk (selfSrc len) b1 b
  | [], _, _, _, _, h => by cases h
  | c :: l, k, 0, b, hf, h => by
    simp only [canonB, Option.some.injEq] at h
    subst h
    obtain ⟨h1, _⟩ := hf
    split at h1
    · rename_i b1 hb1; exact ⟨b1, hb1, h1⟩
    · exact h1.elim
  | c :: l, k, m + 1, b, hf, h => by
    obtain ⟨b1, h1, h2⟩ := finFits_get (l := l) (k := k + 1) (m := m) hf.2 h
    exact ⟨b1, by rw [show k + (m + 1) = k + 1 + m by omega]; exact h1, h2⟩

theorem canonB_map : ∀ {l : List (RW × Blk)} {m : Nat}, canonB (l.map Prod.snd) m = canonHp l m
  | [], _ => rfl
  | (_, b) :: l, 0 => rfl
  | _ :: l, m + 1 => canonB_map (l := l)

theorem lenB_map : ∀ {l : List (RW × Blk)}, lenB (l.map Prod.snd) = lenR l
  | [] => rfl
  | _ :: l => by simp [lenB, lenR, lenB_map (l := l)]

theorem idxN_ok : ∀ {ns : List Nat} {k n i : Nat}, idxN ns k n = some i → k ≤ i ∧ nthN ns (i - k) = some n
  | [], _, _, _, h => by cases h
  | a :: l, k, n, i, h => by
    simp only [idxN] at h
    split at h
    · rename_i e
      injection h with h
      subst h
      rw [Nat.eq_of_beq_eq_true e, Nat.sub_self]
      exact ⟨Nat.le_refl _, rfl⟩
    · obtain ⟨h1, h2⟩ := idxN_ok h
      refine ⟨by omega, ?_⟩
      rw [show i - k = (i - (k + 1)) + 1 by omega]
      exact h2

theorem backBlks_get {ρ : Nat → Src} : ∀ {ns : List Nat} {l : List (RW × Blk)} {m n : Nat}, backBlks ρ hp ns l → nthN ns m = some n → ∃ c b1, canonHp l m = some c ∧ hp n = some b1 ∧ fitBlk ρ c b1
  | [], _, _, _, _, h => by cases h
  | a :: ns, [], _, _, h, _ => h.elim
  | a :: ns, (r, b) :: l, 0, n, h, hm => by
    simp only [nthN, Option.some.injEq] at hm
    subst hm
    obtain ⟨h1, _⟩ := h
    split at h1
    · rename_i b1 hb1; exact ⟨b, b1, rfl, hb1, h1⟩
    · exact h1.elim
  | a :: ns, (r, b) :: l, m + 1, n, h, hm => backBlks_get (ns := ns) (l := l) h.2 hm

theorem nth_of_mem : ∀ {l : List Nat} {n : Nat}, n ∈ l → ∃ m, nthN l m = some n
  | k :: l, n, h => by
    rcases List.mem_cons.1 h with rfl | h
    · exact ⟨0, rfl⟩
    · obtain ⟨m, h2⟩ := nth_of_mem h
      exact ⟨m + 1, h2⟩

theorem even_core {f : FuncId} {R : ESpec} (hR : ∀ g, R.ok g → SemK P E f R.toK g) {args : List TV} {Fr : Nat → Prop} {hpS : Hp} {K : AV → Prop} (h : evenPre R args hpS K) (hok : SatH E 0 Fr β Z hp w) (hsub : ∀ n blk, hpS n = some blk → hp n = some blk) {vs : List Value} (hr : RL β Z w args vs) :
    CallsIn Fence.wide 0 P f vs.toArray w (fun e w' => ∃ val v Z', e = .returned val ∧ K v ∧ RA β Z' w' v val ∧ Left E 0 Fr β Z hp w β Z' hp w') := by
  obtain ⟨g, hg, h⟩ := h
  split at h
  · rename_i ns hns
    obtain ⟨hap, htv, hbl, hback, hk⟩ := h
    have hap := chk_iff.1 hap
    obtain ⟨hlen, hget⟩ := recBlks_get hbl
    let βc : Nat → Loc := fun m => match nthN ns m with | some n => β n | none => .no
    have βc_of : ∀ {m n}, nthN ns m = some n → βc m = β n := fun {m n} e => by show (match nthN ns m with | some n => β n | none => .no) = _; rw [e]
    have hρ : Named (recSrc ns) β βc := by
      refine ⟨fun m n e => ?_, fun m e => ?_⟩
      · unfold recSrc at e
        cases hn : nthN ns m with
        | none => rw [hn] at e; cases e
        | some k => rw [hn] at e; injection e with e; subst e; exact βc_of hn
      · unfold recSrc at e
        split at e <;> cases e
    have hρb : Named (backSrc ns) βc β := by
      refine ⟨fun n i e => ?_, fun m e => ?_⟩
      · unfold backSrc at e
        split at e
        · rename_i j hj
          injection e with e
          subst e
          have := (idxN_ok hj).2
          rw [Nat.sub_zero] at this
          exact (βc_of this).symm
        · cases e
      · unfold backSrc at e
        split at e <;> cases e
    have hsat : SatH E 0 (fun m => lenR (R.hp g) ≤ m) βc Z (canonHp (R.hp g)) w := by
      refine ⟨fun m blk hm => ?_, fun m blk b ln hm hb => ?_, fun m m' b1 b2 b l1 l2 hm hm' hb hb' => ?_, hok.zlt, fun m hm => ?_, hok.gl⟩
      · obtain ⟨n, b1, e1, e2, e3⟩ := hget m blk hm
        rw [βc_of e1]
        exact fitBlk_ok hρ e3 (hok.rb n b1 (hsub n b1 e2))
      · obtain ⟨n, b1, e1, e2, e3⟩ := hget m blk hm
        rw [βc_of e1] at hb
        exact hok.own n b1 b ln (hsub n b1 e2) hb
      · obtain ⟨n, c1, e1, e2, _⟩ := hget m b1 hm
        obtain ⟨n', c1', e1', e2', _⟩ := hget m' b2 hm'
        rw [βc_of e1] at hb
        rw [βc_of e1'] at hb'
        have := hok.inj n n' c1 c1' b l1 l2 (hsub _ _ e2) (hsub _ _ e2') hb hb'
        subst this
        exact apart_inj hap e1 e1'
      · show (match nthN ns m with | some n => β n | none => .no) = .no
        cases hn : nthN ns m with
        | none => rfl
        | some n => have := nthN_lt hn; have hm' : lenR (R.hp g) ≤ m := hm; rw [lenR_eq] at hm'; omega
    have ownc : ∀ b, Own βc (canonHp (R.hp g)) b → ∃ n b1 ln, n ∈ ns ∧ hp n = some b1 ∧ β n = .at b ln := fun b ⟨m, blk, ln, hm, hb⟩ => by
      obtain ⟨n, b1, e1, e2, _⟩ := hget m blk hm
      rw [βc_of e1] at hb
      exact ⟨n, b1, ln, nthN_mem e1, hsub _ _ e2, hb⟩
    have ownx : ∀ b, Own βc (canonHp (R.hp g)) b → Own β hp b := fun b hb => let ⟨n, b1, ln, _, h2, h3⟩ := ownc b hb; ⟨n, b1, ln, h2, h3⟩
    have away : ∀ {n blk b ln}, n ∉ ns → hp n = some blk → β n = .at b ln → ¬ Own βc (canonHp (R.hp g)) b := fun {n blk b ln} h1 h2 h3 hb => by
      obtain ⟨n', b1, ln', k1, k2, k3⟩ := ownc b hb
      have := hok.inj n n' blk b1 b ln ln' h2 k2 h3 k3
      subst this
      exact h1 k1
    refine CallsIn.mono (hR g hg Z βc w vs hsat (recTVs_ok hρ htv hr)) fun e w' ⟨val, d, Z', he, _, hfl, hfin, hv, ev, hz, hzlt, hgl⟩ => ?_
    have ev : Evo (Own βc (canonHp (R.hp g))) Z w Z' w' := ev
    refine ⟨val, _, Z', he, hk, RA.mono (Evo.refl (fun _ => False) Z' w') (fun b hb => ⟨hzlt b hb, fun h => h⟩) (fun n hn => absurd rfl hn) hv, ⟨⟨fun n blk hn => ?_, fun n blk b ln hn hb => ?_, hok.inj, hzlt, hok.fresh, hgl⟩, ev.weaken ownx, Ext.refl _, fun b hb => .inl hb, fun b hb => (hz b hb).imp id .inr⟩⟩
    · by_cases hmem : n ∈ ns
      · obtain ⟨m, hm⟩ := nth_of_mem hmem
        obtain ⟨c, b1, k1, k2, k3⟩ := backBlks_get hback hm
        have := hsub n b1 k2
        rw [hn] at this
        injection this with this
        subst this
        have hc := hfin m c (by show canonB ((R.hp g).map Prod.snd) m = some c; rw [canonB_map]; exact k1)
        rw [βc_of hm] at hc
        exact fitBlk_ok hρb k3 hc
      · exact RB.mono ev hsat.calm (Ext.refl _) (fun b ln hb => ev.same b (hok.own n blk b ln hn hb).1 (away hmem hn hb)) (hok.rb n blk hn)
    · obtain ⟨q1, q2, q3⟩ := hok.own n blk b ln hn hb
      refine ⟨Nat.lt_of_lt_of_le q1 ev.size, fun hzb => ?_, q3⟩
      rcases hz b hzb with h | h
      · exact q2 h
      · exact absurd q1 (Nat.not_lt.2 h)
  · exact h.elim

theorem even_ok {f : FuncId} {R : ESpec} (hR : ∀ g, R.ok g → SemK P E f R.toK g) {args : List TV} {x : HS} {K : AV → Hp → Nat → List Nat → Prop} (h : evenPre R args x.hp (fun v => K v x.hp (x.nx + 4) x.wl)) (hok : x.ok E) {vs : List Value} (hr : RL x.β x.Z x.w args vs) :
    CallsIn Fence.wide 0 P f vs.toArray x.w (CallPost E x K) :=
  CallsIn.mono (even_core hR h hok (fun _ _ h => h) hr) fun e w' ⟨val, v, Z', he, hk, hv, hl⟩ =>
    ⟨val, v, ⟨x.β, Z', x.hp, x.nx + 4, x.wl, w'⟩, he, hk, rfl, hl.sat.weaken (fun n hn => by have hn : x.nx + 4 ≤ n := hn; show x.nx ≤ n; omega), hv, ⟨hl.ev, hl.ext, hl.own, hl.zown, Nat.le_add_right _ _, fun _ h => h, fun _ _ _ => rfl⟩⟩
end
end Go.Sx
