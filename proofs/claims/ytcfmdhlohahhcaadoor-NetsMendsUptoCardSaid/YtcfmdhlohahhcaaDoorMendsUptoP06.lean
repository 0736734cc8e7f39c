/- Texts for the law of the last part, part 6. -/
import Derived.Test.YtcfmdhlohahhcaaDoorMendsUptoP05
import Derived.Sort.LoopGhostIn
set_option linter.unusedSimpArgs false
set_option linter.unusedVariables false
namespace Go.Sx
section
variable {P : Program} {E : Env} {β β' : Nat → Loc} {Z : Nat → Prop} {hp : Hp} {w : World} {r : Nat → Nat}
theorem renCV_ok (h : ∀ m, β m ≠ .no → β' (r m) = β m) : ∀ {x : CV} {v : Value}, RC β Z w x v → RC β' Z w (renCV r x) v := by
 intro x
 have at_ : ∀ {n b ln}, β n = .at b ln → β' (r n) = .at b ln := fun {n b ln} e => by rw [h n (by rw [e]; simp), e]
 induction x with
 | ptr n off => rintro v ⟨b, ln, hb, rfl⟩; exact ⟨b, ln, at_ hb, rfl⟩
 | ep n size i off => rintro v ⟨b, ln, hb, rfl, hi⟩; exact ⟨b, ln, at_ hb, rfl, hi⟩
 | ax n off i sz len fo => rintro v ⟨b, ln, hb, rfl, hi⟩; exact ⟨b, ln, at_ hb, rfl, hi⟩
 | mp n => rintro v ⟨b, ln, hb, rfl⟩; exact ⟨b, ln, at_ hb, rfl⟩
 | yl n => rintro v ⟨b, ln, hb, rfl⟩; exact ⟨b, ln, at_ hb, rfl⟩
 | os n size len =>
   intro v hv
   have hv' : ROs w (β n) size len v := hv
   show ROs w (β' (r n)) size len v
   rw [h n (by intro e; rw [e] at hv'; exact hv')]
   exact hv'
 | fn f sh first nc cap ih1 ih2 =>
   rintro v ⟨fs, cs, rfl, h1, h2, h3, h4⟩
   refine ⟨fs, cs, rfl, h1, h2, fun i hi => ?_, fun i s hs => ?_⟩
   · obtain ⟨u, hu, hr⟩ := h3 i hi
     exact ⟨u, hu, ih2 i hr⟩
   · obtain ⟨u, hu, hr⟩ := h4 i s hs
     refine ⟨u, hu, ?_⟩
     cases s with
     | none => exact ih1 i 0 hr
     | some n =>
       obtain ⟨xs, rfl, hx, hy⟩ := hr
       exact ⟨xs, rfl, hx, fun j hj => let ⟨y, hy1, hy2⟩ := hy j hj; ⟨y, hy1, ih1 i j hy2⟩⟩
 | ip n get => intro v hv; exact hv
 | vs size len get => intro v hv; exact hv
 | _ => intro v hv; exact hv
theorem renTV_ok (h : ∀ m, β m ≠ .no → β' (r m) = β m) {x : TV} {v : Value} (hv : RT β Z w x v) : RT β' Z w (renTV r x) v := by
 cases x with
 | c x => exact renCV_ok h hv
 | a n get =>
   obtain ⟨cs, rfl, h1, h2⟩ := hv
   exact ⟨cs, rfl, h1, fun j hj => let ⟨u, hu, hr⟩ := h2 j hj; ⟨u, hu, renCV_ok h hr⟩⟩
theorem renAV_ok (h : ∀ m, β m ≠ .no → β' (r m) = β m) {x : AV} {v : Value} (hv : RA β Z w x v) : RA β' Z w (renAV r x) v := by
 cases x with
 | any => trivial
 | t x => exact renTV_ok h hv
 | tup l =>
   obtain ⟨vs, rfl, h1, h2⟩ := hv
   refine ⟨vs, rfl, by simp [h1], fun i x hx => ?_⟩
   rw [List.getElem?_map] at hx
   cases hy : l[i]? with
   | none => rw [hy] at hx; cases hx
   | some y =>
     rw [hy] at hx
     simp only [Option.map_some, Option.some.injEq] at hx
     subst hx
     obtain ⟨u, hu, hr⟩ := h2 i y hy
     exact ⟨u, hu, renTV_ok h hr⟩
theorem renBlk_ok (h : ∀ m, β m ≠ .no → β' (r m) = β m) {l : Loc} {b : Blk} (hv : RB β Z w l b) : RB β' Z w l (renBlk r b) := by
 cases l with
 | no => cases b <;> exact hv.elim
 | virt => cases b <;> first | exact hv | exact hv.elim
 | «at» k ln =>
   cases b with
   | box n get =>
     obtain ⟨cs, e, h1, h2, h3⟩ := hv
     exact ⟨cs, e, h1, h2, fun j hj => let ⟨u, hu, hr⟩ := h3 j hj; ⟨u, hu, renCV_ok h hr⟩⟩
   | row => exact hv
   | mp => exact hv
   | mpI => exact hv
   | mq => exact hv
   | lp fid sz tm ps asg body busy pend =>
     obtain ⟨q, h1, h2, h3, h4⟩ := hv
     exact ⟨q, h1, h2, fun t => renAV_ok h (h3 t), h4⟩
theorem canonHp_some : ∀ {l : List (RW × Blk)} {m : Nat}, m < lenR l → ∃ b, canonHp l m = some b
 | [], m, h => absurd h (Nat.not_lt_zero m)
 | (_, b) :: l, 0, _ => ⟨b, rfl⟩
 | _ :: l, m + 1, h => canonHp_some (l := l) (by simpa [lenR] using h)
theorem putBlks_get {ns : List Nat} : ∀ {l : List Blk} {n : Nat} {blk : Blk}, putBlks r ns l hp n = some blk → (∃ m b, nthN ns m = some n ∧ canonB l m = some b ∧ blk = renBlk r b) ∨ ((∀ m, m < lenB l → nthN ns m ≠ some n) ∧ hp n = some blk) := by
 induction ns with
 | nil => intro l n blk h; exact .inr ⟨fun m _ e => (by cases e), (by cases l <;> exact h)⟩
 | cons k ns ih =>
   intro l n blk h
   cases l with
   | nil => exact .inr ⟨fun m hm => absurd hm (Nat.not_lt_zero m), h⟩
   | cons b l =>
     have h : upd (putBlks r ns l hp) k (some (renBlk r b)) n = some blk := h
     by_cases e : n = k
     · subst e
       rw [upd_same] at h
       injection h with h
       exact .inl ⟨0, b, rfl, rfl, h.symm⟩
     · rw [upd_ne _ _ e] at h
       rcases ih h with ⟨m, b', h1, h2, h3⟩ | ⟨h1, h2⟩
       · exact .inl ⟨m + 1, b', h1, h2, h3⟩
       · refine .inr ⟨fun m hm => ?_, h2⟩
         cases m with
         | zero => intro e2; simp only [nthN, Option.some.injEq] at e2; exact e e2.symm
         | succ m => exact h1 m (by simp [lenB] at hm; omega)
theorem putBlks_frame {ns : List Nat} : ∀ {l : List Blk} {n : Nat}, n ∉ ns → putBlks r ns l hp n = hp n := by
 induction ns with
 | nil => intro l n _; cases l <;> rfl
 | cons k ns ih =>
   intro l n hn
   simp only [List.mem_cons, not_or] at hn
   cases l with
   | nil => rfl
   | cons b l =>
     show upd (putBlks r ns l hp) k (some (renBlk r b)) n = hp n
     rw [upd_ne _ _ hn.1, ih hn.2]
theorem canonB_some : ∀ {l : List Blk} {m : Nat}, m < lenB l → ∃ b, canonB l m = some b
 | [], m, h => absurd h (Nat.not_lt_zero m)
 | b :: l, 0, _ => ⟨b, rfl⟩
 | _ :: l, m + 1, h => canonB_some (l := l) (by simpa [lenB] using h)
theorem canonHp_lt : ∀ {l : List (RW × Blk)} {m : Nat} {b : Blk}, canonHp l m = some b → m < lenR l
 | [], _, _, h => by cases h
 | _ :: _, 0, _, _ => by simp [lenR]
 | _ :: l, m + 1, b, h => by have := canonHp_lt (l := l) (m := m) (b := b) h; simp [lenR]; omega
theorem SemK.still {f : FuncId} {R : KSpec} {g : R.γ} (hm : R.mv = none) (h : SemK P E f R g) : ∀ (Z : Nat → Prop) (β : Nat → Loc) (w : World) (vs : List Value), SatH E 0 (fun m => lenR (R.hp g) ≤ m) β Z (canonHp (R.hp g)) w → RL β Z w (R.arg g) vs →
   CallsIn Fence.wide 0 P f vs.toArray w fun e w' => ∃ val d Z', e = .returned val ∧ R.post g d ∧ lenB (R.fin g d) = lenR (R.hp g) ∧ (∀ m blk, canonB (R.fin g d) m = some blk → RB β Z' w' (β m) blk) ∧
     RA (fun _ => .no) Z' w' (resAV (R.res g d)) val ∧ Evo (Own β (canonHp (R.hp g))) Z w Z' w' ∧ (∀ b, Z' b → Z b ∨ w.heap.size ≤ b) ∧ (∀ b, Z' b → b < w'.heap.size) ∧ GlOk E Z' w' := by
 intro Z β w vs hs hr
 refine CallsIn.mono (h Z β w vs hs hr) fun e w' ⟨val, d, Z', βf, h1, h2, h3, h4, h5, h6, h7, h8, h9⟩ => ?_
 have eβ : βf = β := funext fun m => h4 m (by rw [hm]; intro e; cases e)
 subst eβ
 refine ⟨val, d, Z', h1, h2, h3, h5.rb, h7, h8, fun b hb => ?_, h5.zlt, h5.gl⟩
 rcases h9 b hb with h | ⟨m, blk, ln, k1, k2⟩ | h
 · exact .inl h
 · obtain ⟨c, hc⟩ := canonB_some (l := R.fin g d) (m := m) (by rw [h3]; exact canonHp_lt k1)
   exact absurd hb (h5.own m c b ln hc k2).2.1
 · exact .inr h
theorem setNth_len : ∀ {l : List Nat} {k x : Nat}, (setNth l k x).length = l.length
 | [], _, _ => rfl
 | _ :: _, 0, _ => rfl
 | _ :: l, k + 1, x => by simp [setNth, setNth_len (l := l)]
theorem setNth_at : ∀ {l : List Nat} {k x : Nat}, k < l.length → nthN (setNth l k x) k = some x
 | [], _, _, h => by simp at h
 | _ :: _, 0, _, _ => rfl
 | _ :: l, k + 1, x, h => setNth_at (l := l) (by simpa using h)
theorem setNth_ne : ∀ {l : List Nat} {k m x : Nat}, m ≠ k → nthN (setNth l k x) m = nthN l m
 | [], _, _, _, _ => rfl
 | _ :: _, 0, 0, _, h => absurd rfl h
 | _ :: _, 0, _ + 1, _, _ => rfl
 | _ :: _, _ + 1, 0, _, _ => rfl
 | _ :: l, k + 1, m + 1, x, h => setNth_ne (l := l) (by omega)
theorem nthN_some : ∀ {l : List Nat} {m : Nat}, m < l.length → ∃ n, nthN l m = some n
 | [], _, h => by simp at h
 | n :: _, 0, _ => ⟨n, rfl⟩
 | _ :: l, m + 1, h => nthN_some (l := l) (by simpa using h)
theorem mem_nthN : ∀ {l : List Nat} {n : Nat}, n ∈ l → ∃ m, m < l.length ∧ nthN l m = some n
 | k :: l, n, h => by
   rcases List.mem_cons.1 h with rfl | h
   · exact ⟨0, by simp, rfl⟩
   · obtain ⟨m, h1, h2⟩ := mem_nthN h
     exact ⟨m + 1, by simp; omega, h2⟩
theorem mvHp_some {q : Option Nat} {ns : List Nat} {n : Nat} {blk : Blk} (h : mvHp q ns hp n = some blk) : hp n = some blk := by
 cases q with
 | none => exact h
 | some k =>
   cases e : nthN ns k with
   | none =>
     have : mvHp (some k) ns hp = hp := by unfold mvHp; simp only [e]
     rw [this] at h; exact h
   | some m =>
     have : mvHp (some k) ns hp = upd hp m none := by unfold mvHp; simp only [e]
     rw [this] at h
     by_cases c : n = m
     · subst c; rw [upd_same] at h; cases h
     · rw [upd_ne _ _ c] at h; exact h
theorem mvHp_frame {q : Option Nat} {ns : List Nat} {n : Nat} (hn : n ∉ ns) : mvHp q ns hp n = hp n := by
 cases q with
 | none => rfl
 | some k =>
   cases e : nthN ns k with
   | none =>
     have : mvHp (some k) ns hp = hp := by unfold mvHp; simp only [e]
     rw [this]
   | some m =>
     have : mvHp (some k) ns hp = upd hp m none := by unfold mvHp; simp only [e]
     rw [this, upd_ne]
     rintro rfl
     exact hn (nthN_mem e)
theorem mvHp_at {k : Nat} {ns : List Nat} {n : Nat} (e : nthN ns k = some n) : mvHp (some k) ns hp n = none := by
 have : mvHp (some k) ns hp = upd hp n none := by unfold mvHp; simp only [e]
 rw [this, upd_same]
theorem kept_ok {f : FuncId} {R : KSpec} (hR : ∀ g, R.ok g → SemK P E f R g) {args : List TV} {x : HS} {K : AV → Hp → Nat → List Nat → Prop} (h : keptCall R args x.hp x.nx x.wl K) (hok : x.ok E) {vs : List Value} (hr : RL x.β x.Z x.w args vs) :
   CallsIn Fence.wide 0 P f vs.toArray x.w (CallPost E x K) := by
 obtain ⟨g, hg, h⟩ := h
 split at h
 · rename_i ns hns
   obtain ⟨hap, htv, hbl, hk⟩ := h
   have hap := chk_iff.1 hap
   obtain ⟨hlen, hget⟩ := recBlks_get hbl
   let βc : Nat → Loc := fun m => match nthN ns m with | some n => x.β n | none => .no
   have hρ : Named (recSrc ns) x.β βc := by
     refine ⟨fun m n e => ?_, fun m e => ?_⟩
     · unfold recSrc at e
       show (match nthN ns m with | some n => x.β n | none => .no) = x.β n
       cases hn : nthN ns m with
       | none => rw [hn] at e; cases e
       | some k => rw [hn] at e; injection e with e; subst e; rfl
     · unfold recSrc at e
       split at e <;> cases e
   have βc_of : ∀ {m n}, nthN ns m = some n → βc m = x.β n := fun {m n} e => by show (match nthN ns m with | some n => x.β n | none => .no) = _; rw [e]
   have hren : ∀ m, βc m ≠ .no → x.β (nameAt ns m) = βc m := fun m hm => by
     show x.β (match nthN ns m with | some n => n | none => 0) = βc m
     cases hn : nthN ns m with
     | none => exact absurd (show (match nthN ns m with | some n => x.β n | none => .no) = .no by rw [hn]) hm
     | some n => exact (βc_of hn).symm
   have hsat : SatH E 0 (fun m => lenR (R.hp g) ≤ m) βc x.Z (canonHp (R.hp g)) x.w := by
     refine ⟨fun m blk hm => ?_, fun m blk b ln hm hb => ?_, fun m m' b1 b2 b l1 l2 hm hm' hb hb' => ?_, hok.zlt, fun m hm => ?_, hok.gl⟩
     · obtain ⟨n, b1, e1, e2, e3⟩ := hget m blk hm
       rw [βc_of e1]
       exact fitBlk_ok hρ e3 (hok.rb n b1 e2)
     · obtain ⟨n, b1, e1, e2, e3⟩ := hget m blk hm
       rw [βc_of e1] at hb
       exact hok.own n b1 b ln e2 hb
     · obtain ⟨n, c1, e1, e2, _⟩ := hget m b1 hm
       obtain ⟨n', c1', e1', e2', _⟩ := hget m' b2 hm'
       rw [βc_of e1] at hb
       rw [βc_of e1'] at hb'
       have := hok.inj n n' c1 c1' b l1 l2 e2 e2' hb hb'
       subst this
       exact apart_inj hap e1 e1'
     · show (match nthN ns m with | some n => x.β n | none => .no) = .no
       cases hn : nthN ns m with
       | none => rfl
       | some n => have := nthN_lt hn; have hm' : lenR (R.hp g) ≤ m := hm; rw [lenR_eq] at hm'; omega
   have ownc : ∀ b, Own βc (canonHp (R.hp g)) b → ∃ n b1 ln, n ∈ ns ∧ x.hp n = some b1 ∧ x.β n = .at b ln := fun b ⟨m, blk, ln, hm, hb⟩ => by
     obtain ⟨n, b1, e1, e2, _⟩ := hget m blk hm
     rw [βc_of e1] at hb
     exact ⟨n, b1, ln, nthN_mem e1, e2, hb⟩
   have ownx : ∀ b, Own βc (canonHp (R.hp g)) b → Own x.β x.hp b := fun b hb => let ⟨n, b1, ln, _, h2, h3⟩ := ownc b hb; ⟨n, b1, ln, h2, h3⟩
   have away : ∀ {n blk b ln}, n ∉ ns → x.hp n = some blk → x.β n = .at b ln → ¬ Own βc (canonHp (R.hp g)) b := fun {n blk b ln} h1 h2 h3 hb => by
     obtain ⟨n', b1, ln', k1, k2, k3⟩ := ownc b hb
     have := hok.inj n n' blk b1 b ln ln' h2 k2 h3 k3
     subst this
     exact h1 k1
   refine CallsIn.mono (hR g hg x.Z βc x.w vs hsat (recTVs_ok hρ htv hr)) fun e w' ⟨val, d, Z', βf, he, hpost, hfl, hβf, hsf, hof, hv, ev, hz⟩ => ?_
   have hlenR : lenR (R.hp g) = ns.length := by rw [lenR_eq, ← hlen]
   let β' : Nat → Loc := fun n => match R.mv with | none => x.β n | some q => if n = x.nx then βf q else x.β n
   have xnx : x.β x.nx = .no := hok.fresh x.nx (Nat.le_refl _)
   have lt_nx : ∀ {n blk}, x.hp n = some blk → n < x.nx := fun {n blk} hn => by
     apply Nat.lt_of_not_le
     intro hle
     have hrb := hok.rb n blk hn
     rw [hok.fresh n hle] at hrb
     cases blk <;> exact hrb.elim
   have β'_old : ∀ {n}, n ≠ x.nx → β' n = x.β n := fun {n} hn => by
     show (match R.mv with | none => x.β n | some q => if n = x.nx then βf q else x.β n) = x.β n
     split
     · rfl
     · rw [if_neg hn]
   have ns_hp : ∀ {m n}, nthN ns m = some n → ∃ b1, x.hp n = some b1 := fun {m n} hm => by
     obtain ⟨c, hc⟩ := canonHp_some (l := R.hp g) (m := m) (by rw [hlenR]; exact nthN_lt hm)
     obtain ⟨n', b1, e1, e2, _⟩ := hget m c hc
     rw [hm] at e1; injection e1 with e1; subst e1
     exact ⟨b1, e2⟩
   have nsl : (mvNs R.mv x.nx ns).length = ns.length := by
     unfold mvNs; split
     · rfl
     · exact setNth_len
   have at_ : ∀ {m n}, nthN (mvNs R.mv x.nx ns) m = some n → β' n = βf m := fun {m n} hm => by
     unfold mvNs at hm
     split at hm
     · rename_i hq
       obtain ⟨b1, hb⟩ := ns_hp hm
       rw [β'_old (Nat.ne_of_lt (lt_nx hb)), hβf m (by rw [hq]; intro e; cases e)]
       exact (βc_of hm).symm
     · rename_i q hq
       by_cases c : m = q
       · subst c
         rw [setNth_at (by have := nthN_lt hm; rw [setNth_len] at this; exact this)] at hm
         injection hm with hm
         subst hm
         show (match R.mv with | none => x.β x.nx | some q => if x.nx = x.nx then βf q else x.β x.nx) = βf m
         rw [hq]; simp
       · rw [setNth_ne c] at hm
         obtain ⟨b1, hb⟩ := ns_hp hm
         rw [β'_old (Nat.ne_of_lt (lt_nx hb)), hβf m (by rw [hq]; intro e; injection e with e; exact c e.symm)]
         exact (βc_of hm).symm
   have hren : ∀ m, βf m ≠ .no → β' (nameAt (mvNs R.mv x.nx ns) m) = βf m := fun m hm => by
     have hlt : m < (mvNs R.mv x.nx ns).length := by
       apply Nat.lt_of_not_le
       intro hle
       exact hm (hsf.fresh m (by show lenR (R.hp g) ≤ m; rw [hlenR, ← nsl]; exact hle))
     obtain ⟨n, hn⟩ := nthN_some hlt
     have : nameAt (mvNs R.mv x.nx ns) m = n := by unfold nameAt; rw [hn]
     rw [this]
     exact at_ hn
   have old : ∀ n blk, putBlks (nameAt (mvNs R.mv x.nx ns)) (mvNs R.mv x.nx ns) (R.fin g d) (mvHp R.mv ns x.hp) n = some blk → (∃ m b, nthN (mvNs R.mv x.nx ns) m = some n ∧ canonB (R.fin g d) m = some b ∧ blk = renBlk (nameAt (mvNs R.mv x.nx ns)) b) ∨ (n ∉ ns ∧ x.hp n = some blk) := fun n blk hn => by
     rcases putBlks_get hn with h | ⟨h1, h2⟩
     · exact .inl h
     · refine .inr ⟨fun hm => ?_, mvHp_some h2⟩
       obtain ⟨m, k1, k2⟩ := mem_nthN hm
       have hB : m < lenB (R.fin g d) := by rw [hfl, hlenR]; exact k1
       cases hq : R.mv with
       | none => rw [hq] at h1; exact h1 m hB k2
       | some q =>
         rw [hq] at h1 h2
         by_cases c : m = q
         · subst c
           rw [mvHp_at k2] at h2; cases h2
         · exact h1 m hB (by show nthN (setNth ns q x.nx) m = some n; rw [setNth_ne c]; exact k2)
   refine ⟨val, _, ⟨β', Z', putBlks (nameAt (mvNs R.mv x.nx ns)) (mvNs R.mv x.nx ns) (R.fin g d) (mvHp R.mv ns x.hp), x.nx + 4, ns ++ x.wl, w'⟩, he, hk d hpost, rfl, ⟨fun n blk hn => ?_, fun n blk b ln hn hb => ?_, fun n m b1 b2 b l1 l2 hn hm hb hb' => ?_, hsf.zlt, fun n hn => ?_, hsf.gl⟩, ?_, ⟨ev.weaken ownx, fun n hn => ?_, fun b hb => ?_, fun b hb => ?_, Nat.le_add_right _ _, fun n hn => List.mem_append.2 (.inr hn), fun n hn hw => ?_⟩⟩
   · rcases old n blk hn with ⟨m, b, k1, k2, rfl⟩ | ⟨k2, k3⟩
     · have := renBlk_ok hren (hsf.rb m b k2)
       rw [← at_ k1] at this
       exact this
     · have hne := Nat.ne_of_lt (lt_nx k3)
       show RB β' Z' w' (β' n) blk
       rw [β'_old hne]
       refine RB.mono ev hsat.calm (β := x.β) (fun n' hn' => ?_) (fun b ln hb => ev.same b (hok.own n blk b ln k3 hb).1 (away k2 k3 hb)) (hok.rb n blk k3)
       exact β'_old fun e => hn' (by rw [e]; exact xnx)
   · rcases old n blk hn with ⟨m, c, k1, k2, _⟩ | ⟨k2, k3⟩
     · have hb : β' n = .at b ln := hb
       rw [at_ k1] at hb
       exact hsf.own m c b ln k2 hb
     · have hb : β' n = .at b ln := hb
       rw [β'_old (Nat.ne_of_lt (lt_nx k3))] at hb
       obtain ⟨q1, q2, q3⟩ := hok.own n blk b ln k3 hb
       refine ⟨Nat.lt_of_lt_of_le q1 ev.size, fun hzb => ?_, q3⟩
       rcases hz b hzb with h | h | h
       · exact q2 h
       · exact away k2 k3 hb h
       · exact absurd q1 (Nat.not_lt.2 h)
   · have hb : β' n = .at b l1 := hb
     have hb' : β' m = .at b l2 := hb'
     rcases old n b1 hn with ⟨i, c, k1, k2, _⟩ | ⟨k2, k3⟩ <;> rcases old m b2 hm with ⟨i', c', k1', k2', _⟩ | ⟨k2', k3'⟩
     · rw [at_ k1] at hb
       rw [at_ k1'] at hb'
       have := hsf.inj i i' c c' b l1 l2 k2 k2' hb hb'
       subst this
       rw [k1] at k1'; injection k1'
     · rw [at_ k1] at hb
       rw [β'_old (Nat.ne_of_lt (lt_nx k3'))] at hb'
       rcases hof b ⟨i, c, l1, k2, hb⟩ with h | h
       · exact absurd h (away k2' k3' hb')
       · exact absurd (hok.own m b2 b l2 k3' hb').1 (Nat.not_lt.2 h)
     · rw [at_ k1'] at hb'
       rw [β'_old (Nat.ne_of_lt (lt_nx k3))] at hb
       rcases hof b ⟨i', c', l2, k2', hb'⟩ with h | h
       · exact absurd h (away k2 k3 hb)
       · exact absurd (hok.own n b1 b l1 k3 hb).1 (Nat.not_lt.2 h)
     · rw [β'_old (Nat.ne_of_lt (lt_nx k3))] at hb
       rw [β'_old (Nat.ne_of_lt (lt_nx k3'))] at hb'
       exact hok.inj n m b1 b2 b l1 l2 k3 k3' hb hb'
   · have hn : x.nx + 4 ≤ n := hn
     show β' n = .no
     rw [β'_old (by omega)]
     exact hok.fresh n (by show x.nx ≤ n; omega)
   · exact RA.mono (Evo.refl (fun _ => False) Z' w') (fun b hb => ⟨hsf.zlt b hb, fun h => h⟩) (fun n hn => absurd rfl hn) hv
   · exact β'_old fun e => hn (by rw [e]; exact xnx)
   · obtain ⟨n, blk, ln, hn, hb⟩ := hb
     have hb : β' n = .at b ln := hb
     rcases old n blk hn with ⟨m, c, k1, k2, _⟩ | ⟨k2, k3⟩
     · rw [at_ k1] at hb
       rcases hof b ⟨m, c, ln, k2, hb⟩ with h | h
       · exact .inl (ownx b h)
       · exact .inr h
     · rw [β'_old (Nat.ne_of_lt (lt_nx k3))] at hb
       exact .inl ⟨n, blk, ln, k3, hb⟩
   · rcases hz b hb with h | h | h
     · exact .inl h
     · exact .inr (.inl (ownx b h))
     · exact .inr (.inr h)
   · simp only [List.mem_append, not_or] at hw
     have hn : n < x.nx := hn
     have nin : n ∉ mvNs R.mv x.nx ns := by
       unfold mvNs
       split
       · exact hw.1
       · rename_i q _
         intro hm
         obtain ⟨m, k1, k2⟩ := mem_nthN hm
         by_cases c : m = q
         · subst c
           rw [setNth_len] at k1
           rw [setNth_at k1] at k2
           injection k2 with k2
           omega
         · rw [setNth_ne c] at k2
           exact hw.1 (nthN_mem k2)
     show putBlks _ _ _ _ n = x.hp n
     rw [putBlks_frame nin, mvHp_frame hw.1]
 · exact h.elim
theorem finFitsM_get {ρ : Nat → Src} : ∀ {l : List Blk} {k m : Nat} {b : Blk}, finFitsM ρ hp k l → canonB l m = some b → (∃ n b1, ρ (k + m) = .nm n ∧ hp n = some b1 ∧ fitBlk ρ b1 b) ∨ (ρ (k + m) = .virt ∧ ∃ e s g, b = .row e s 0 g)
 | [], _, _, _, _, h => by cases h
 | c :: l, k, 0, b, hf, h => by
   simp only [canonB, Option.some.injEq] at h
   subst h
   obtain ⟨h1, _⟩ := hf
   split at h1
   · rename_i n hn
     split at h1
     · rename_i b1 hb1; exact .inl ⟨n, b1, hn, hb1, h1⟩
     · exact h1.elim
   · rename_i hn
     split at h1
     · subst h1; exact .inr ⟨hn, _, _, _, rfl⟩
     · exact h1.elim
   · exact h1.elim
 | c :: l, k, m + 1, b, hf, h => by
   have := finFitsM_get (l := l) (k := k + 1) (m := m) hf.2 h
   rw [show k + 1 + m = k + (m + 1) by omega] at this
   exact this
theorem canonB_map : ∀ {l : List (RW × Blk)} {m : Nat}, canonB (l.map Prod.snd) m = canonHp l m
 | [], _ => rfl
 | (_, b) :: l, 0 => rfl
 | _ :: l, m + 1 => canonB_map (l := l)
theorem idxN_ok : ∀ {ns : List Nat} {k n i : Nat}, idxN ns k n = some i → k ≤ i ∧ nthN ns (i - k) = some n
 | [], _, _, _, h => by cases h
 | a :: l, k, n, i, h => by
   simp only [idxN] at h
   split at h
   · rename_i e
     injection h with h
     subst h
     rw [Nat.eq_of_beq_eq_true e, Nat.sub_self]
     exact ⟨Nat.le_refl _, rfl⟩
   · obtain ⟨h1, h2⟩ := idxN_ok h
     refine ⟨by omega, ?_⟩
     rw [show i - k = (i - (k + 1)) + 1 by omega]
     exact h2
theorem backBlks_get {ρ : Nat → Src} : ∀ {ns : List Nat} {l : List (RW × Blk)} {m n : Nat}, backBlks ρ hp ns l → nthN ns m = some n → ∃ c b1, canonHp l m = some c ∧ hp n = some b1 ∧ fitBlk ρ c b1
 | [], _, _, _, _, h => by cases h
 | a :: ns, [], _, _, h, _ => h.elim
 | a :: ns, (r, b) :: l, 0, n, h, hm => by
   simp only [nthN, Option.some.injEq] at hm
   subst hm
   obtain ⟨h1, _⟩ := h
   split at h1
   · rename_i b1 hb1; exact ⟨b, b1, rfl, hb1, h1⟩
   · exact h1.elim
 | a :: ns, (r, b) :: l, m + 1, n, h, hm => backBlks_get (ns := ns) (l := l) h.2 hm
theorem nth_of_mem : ∀ {l : List Nat} {n : Nat}, n ∈ l → ∃ m, nthN l m = some n
 | k :: l, n, h => by
   rcases List.mem_cons.1 h with rfl | h
   · exact ⟨0, rfl⟩
   · obtain ⟨m, h2⟩ := nth_of_mem h
     exact ⟨m + 1, h2⟩
theorem even_core {f : FuncId} {R : ESpec} (hR : ∀ g, R.ok g → SemK P E f R.toK g) {args : List TV} {Fr : Nat → Prop} {hpS : Hp} {K : AV → Prop} (h : evenPre R args hpS K) (hok : SatH E 0 Fr β Z hp w) (hsub : ∀ n blk, hpS n = some blk → hp n = some blk) {vs : List Value} (hr : RL β Z w args vs) :
   CallsIn Fence.wide 0 P f vs.toArray w (fun e w' => ∃ val v Z', e = .returned val ∧ K v ∧ RA β Z' w' v val ∧ Left E 0 Fr β Z hp w β Z' hp w') := by
 obtain ⟨g, hg, h⟩ := h
 split at h
 · rename_i ns hns
   obtain ⟨hap, htv, hbl, hback, hk⟩ := h
   have hap := chk_iff.1 hap
   obtain ⟨hlen, hget⟩ := recBlks_get hbl
   let βc : Nat → Loc := fun m => match nthN ns m with | some n => β n | none => .no
   have βc_of : ∀ {m n}, nthN ns m = some n → βc m = β n := fun {m n} e => by show (match nthN ns m with | some n => β n | none => .no) = _; rw [e]
   have hρ : Named (recSrc ns) β βc := by
     refine ⟨fun m n e => ?_, fun m e => ?_⟩
     · unfold recSrc at e
       cases hn : nthN ns m with
       | none => rw [hn] at e; cases e
       | some k => rw [hn] at e; injection e with e; subst e; exact βc_of hn
     · unfold recSrc at e
       split at e <;> cases e
   have hρb : Named (backSrc ns) βc β := by
     refine ⟨fun n i e => ?_, fun m e => ?_⟩
     · unfold backSrc at e
       split at e
       · rename_i j hj
         injection e with e
         subst e
         have := (idxN_ok hj).2
         rw [Nat.sub_zero] at this
         exact (βc_of this).symm
       · cases e
     · unfold backSrc at e
       split at e <;> cases e
   have hsat : SatH E 0 (fun m => lenR (R.hp g) ≤ m) βc Z (canonHp (R.hp g)) w := by
     refine ⟨fun m blk hm => ?_, fun m blk b ln hm hb => ?_, fun m m' b1 b2 b l1 l2 hm hm' hb hb' => ?_, hok.zlt, fun m hm => ?_, hok.gl⟩
     · obtain ⟨n, b1, e1, e2, e3⟩ := hget m blk hm
       rw [βc_of e1]
       exact fitBlk_ok hρ e3 (hok.rb n b1 (hsub n b1 e2))
     · obtain ⟨n, b1, e1, e2, e3⟩ := hget m blk hm
       rw [βc_of e1] at hb
       exact hok.own n b1 b ln (hsub n b1 e2) hb
     · obtain ⟨n, c1, e1, e2, _⟩ := hget m b1 hm
       obtain ⟨n', c1', e1', e2', _⟩ := hget m' b2 hm'
       rw [βc_of e1] at hb
       rw [βc_of e1'] at hb'
       have := hok.inj n n' c1 c1' b l1 l2 (hsub _ _ e2) (hsub _ _ e2') hb hb'
       subst this
       exact apart_inj hap e1 e1'
     · show (match nthN ns m with | some n => β n | none => .no) = .no
       cases hn : nthN ns m with
       | none => rfl
       | some n => have := nthN_lt hn; have hm' : lenR (R.hp g) ≤ m := hm; rw [lenR_eq] at hm'; omega
   have ownc : ∀ b, Own βc (canonHp (R.hp g)) b → ∃ n b1 ln, n ∈ ns ∧ hp n = some b1 ∧ β n = .at b ln := fun b ⟨m, blk, ln, hm, hb⟩ => by
     obtain ⟨n, b1, e1, e2, _⟩ := hget m blk hm
     rw [βc_of e1] at hb
     exact ⟨n, b1, ln, nthN_mem e1, hsub _ _ e2, hb⟩
   have ownx : ∀ b, Own βc (canonHp (R.hp g)) b → Own β hp b := fun b hb => let ⟨n, b1, ln, _, h2, h3⟩ := ownc b hb; ⟨n, b1, ln, h2, h3⟩
   have away : ∀ {n blk b ln}, n ∉ ns → hp n = some blk → β n = .at b ln → ¬ Own βc (canonHp (R.hp g)) b := fun {n blk b ln} h1 h2 h3 hb => by
     obtain ⟨n', b1, ln', k1, k2, k3⟩ := ownc b hb
     have := hok.inj n n' blk b1 b ln ln' h2 k2 h3 k3
     subst this
     exact h1 k1
   refine CallsIn.mono (SemK.still rfl (hR g hg) Z βc w vs hsat (recTVs_ok hρ htv hr)) fun e w' ⟨val, d, Z', he, _, hfl, hfin, hv, ev, hz, hzlt, hgl⟩ => ?_
   have ev : Evo (Own βc (canonHp (R.hp g))) Z w Z' w' := ev
   refine ⟨val, _, Z', he, hk, RA.mono (Evo.refl (fun _ => False) Z' w') (fun b hb => ⟨hzlt b hb, fun h => h⟩) (fun n hn => absurd rfl hn) hv, ⟨⟨fun n blk hn => ?_, fun n blk b ln hn hb => ?_, hok.inj, hzlt, hok.fresh, hgl⟩, ev.weaken ownx, Ext.refl _, fun b hb => .inl hb, fun b hb => (hz b hb).imp id .inr⟩⟩
   · by_cases hmem : n ∈ ns
     · obtain ⟨m, hm⟩ := nth_of_mem hmem
       obtain ⟨c, b1, k1, k2, k3⟩ := backBlks_get hback hm
       have := hsub n b1 k2
       rw [hn] at this
       injection this with this
       subst this
       have hc := hfin m c (by show canonB ((R.hp g).map Prod.snd) m = some c; rw [canonB_map]; exact k1)
       rw [βc_of hm] at hc
       exact fitBlk_ok hρb k3 hc
     · exact RB.mono ev hsat.calm (Ext.refl _) (fun b ln hb => ev.same b (hok.own n blk b ln hn hb).1 (away hmem hn hb)) (hok.rb n blk hn)
   · obtain ⟨q1, q2, q3⟩ := hok.own n blk b ln hn hb
     refine ⟨Nat.lt_of_lt_of_le q1 ev.size, fun hzb => ?_, q3⟩
     rcases hz b hzb with h | h
     · exact q2 h
     · exact absurd q1 (Nat.not_lt.2 h)
 · exact h.elim
theorem even_ok {f : FuncId} {R : ESpec} (hR : ∀ g, R.ok g → SemK P E f R.toK g) {args : List TV} {x : HS} {K : AV → Hp → Nat → List Nat → Prop} (h : evenPre R args x.hp (fun v => K v x.hp (x.nx + 4) x.wl)) (hok : x.ok E) {vs : List Value} (hr : RL x.β x.Z x.w args vs) :
   CallsIn Fence.wide 0 P f vs.toArray x.w (CallPost E x K) :=
 CallsIn.mono (even_core hR h hok (fun _ _ h => h) hr) fun e w' ⟨val, v, Z', he, hk, hv, hl⟩ =>
   ⟨val, v, ⟨x.β, Z', x.hp, x.nx + 4, x.wl, w'⟩, he, hk, rfl, hl.sat.weaken (fun n hn => by have hn : x.nx + 4 ≤ n := hn; show x.nx ≤ n; omega), hv, ⟨hl.ev, hl.ext, hl.own, hl.zown, Nat.le_add_right _ _, fun _ h => h, fun _ _ _ => rfl⟩⟩
end
end Go.Sx
namespace Go.Sx
section
variable {P : Program} {E : Env} {β0 β1 : Nat → Loc} {Z0 Z1 : Nat → Prop} {w0 w1 : World}
def headLoc (nx : Nat) (ss : List (Nat × Src)) (β1 : Nat → Loc) : Nat → Loc := fun m =>
 if m < nx + 16 then (match findSrc ss m with | .nm n => β1 n | .virt => .virt | .bad => .no) else .no
theorem headLoc_named {nx : Nat} {ss : List (Nat × Src)} : Named (bound nx (findSrc ss)) β1 (headLoc nx ss β1) := by
 have lt : ∀ m, Nat.blt m (nx + 16) = true → m < nx + 16 := fun m h => Nat.le_of_ble_eq_true h
 refine ⟨fun m n h => ?_, fun m h => ?_⟩
 · unfold bound at h
   split at h
   · rename_i hb; simp only [headLoc, lt m hb, if_true, h]
   · simp at h
 · unfold bound at h
   split at h
   · rename_i hb; simp only [headLoc, lt m hb, if_true, h]
   · simp at h
theorem arrive {A : Ann} {c : Code} {st st1 : St} {g : A.G} {a0 a1 : Act} (h0 : Sat E st β0 Z0 a0 w0) (h1 : SatH E 0 (fun n => st1.nx ≤ n) β1 Z1 st1.hp w1) (tm1 : ∀ t, RA β1 Z1 w1 (st1.tm t) (a1.tmps.getD t undef)) (sz1 : a1.tmps.size = st.sz)
   (ev : Evo (Own β0 st.hp) Z0 w0 Z1 w1) (ext : Ext β0 β1) (own : ∀ b, Own β1 st1.hp b → Own β0 st.hp b ∨ w0.heap.size ≤ b) (zown : ∀ b, Z1 b → Z0 b ∨ Own β0 st.hp b ∨ w0.heap.size ≤ b)
   (kept : ∀ n, n < st.nx → n ∉ A.dom st → st1.hp n = st.hp n) (slots : ∀ t, writes c t = false → a1.tmps.getD t undef = a0.tmps.getD t undef) (hc : comesTo A st st1 g) :
   ∃ β2, Sat E (headSt A c st g) β2 Z1 a1 w1 ∧ Turn (HS.of st β0 Z0 w0) ⟨β2, Z1, (headSt A c st g).hp, st.nx + 16, A.dom st ++ st.wl, w1⟩ := by
 obtain ⟨hchk, htms, hhps⟩ := hc
 have hchk := chk_iff.1 hchk
 simp only [Bool.and_eq_true] at hchk
 obtain ⟨⟨hsame, hnames⟩, _⟩ := hchk
 have hdom := sameNames_ok hsame
 obtain ⟨n1, n2, n3, n4⟩ := fitNames_ok hnames
 let l := A.hp st g
 let ss := srcs st1 l
 let β2 := headLoc st.nx ss β1
 have hρ : Named (bound st.nx (findSrc ss)) β1 β2 := headLoc_named
 have bnd : ∀ m, m < st.nx + 16 → bound st.nx (findSrc ss) m = findSrc ss m := fun m hm => by
   unfold bound
   rw [show Nat.blt m (st.nx + 16) = true from Nat.ble_eq_true_of_le hm]
 have old : ∀ n, n < st.nx → findSrc ss n = .nm n := fun n hn => by
   rcases findSrc_or (ss := ss) (n := n) with ⟨h, _⟩ | h
   · exact h
   · obtain ⟨w, b, hm, e⟩ := srcs_mem h
     rcases (n1 _ hm).2 with h2 | h2
     · exact absurd h2 (by show ¬ st.nx ≤ n; omega)
     · simp only at h2; subst h2; exact e
 have oldβ : ∀ n, n < st.nx → β2 n = β1 n := fun n hn => hρ.nm n n (by rw [bnd n (by omega)]; exact old n hn)
 have known : ∀ n, β0 n ≠ .no → n < st.nx := fun n hn => by
   apply Nat.lt_of_not_le; intro hle; exact hn (h0.heap.fresh n hle)
 have ext2 : Ext β0 β2 := fun n hn => by rw [oldβ n (known n hn)]; exact ext n hn
 have ag : ∀ n, β0 n ≠ .no → β2 n = β1 n := fun n hn => oldβ n (known n hn)
 have hph : ∀ n, (headSt A c st g).hp n = match findHp l n with | some (_, b) => b | none => st.hp n := fun n => rfl
 have src : ∀ n blk, (headSt A c st g).hp n = some blk → RB β2 Z1 w1 (β2 n) blk ∧ n < st.nx + 16 ∧
     ((findHp l n = none ∧ n < st.nx ∧ findSrc ss n = .nm n ∧ ∃ b1, st1.hp n = some b1) ∨
      (∃ k b1, (n, Src.nm k) ∈ ss ∧ findSrc ss n = .nm k ∧ st1.hp k = some b1) ∨ findSrc ss n = .virt) := fun n blk hn => by
   rw [hph] at hn
   cases hf : findHp l n with
   | none =>
     rw [hf] at hn
     simp only at hn
     have hβ0 : β0 n ≠ .no := fun e => by
       have := h0.heap.rb n blk hn
       rw [e] at this; cases blk <;> exact this.elim
     have hlt := known n hβ0
     have hnd : n ∉ A.dom st := fun hm => by
       rw [hdom] at hm
       obtain ⟨x, hx, hxe⟩ := List.mem_map.1 hm
       exact findHp_none.1 hf x hx hxe
     have hk := kept n hlt hnd
     rw [hn] at hk
     refine ⟨?_, by omega, .inl ⟨rfl, hlt, old n hlt, blk, hk⟩⟩
     rw [oldβ n hlt]
     refine RB.rebase ag (h0.heap.rb n blk hn) (h1.rb n blk hk) (fun b ln hb => ?_)
     rw [ext n hβ0] at hb
     exact ⟨b, ln, hb⟩
   | some r =>
     obtain ⟨w, ob⟩ := r
     rw [hf] at hn
     simp only at hn
     subst hn
     obtain ⟨e1, e2⟩ := findSrc_some (st1 := st1) hf
     have hmem := findHp_mem hf
     have hlt := (n1 _ hmem).1
     have hone := fitHps_get hhps hmem
     unfold fitOne at hone
     have hb := bnd n hlt
     split at hone
     · rename_i k hk
       have hk0 : findSrc ss n = .nm k := by rw [← hb]; exact hk
       split at hone
       · rename_i b1 hb1
         refine ⟨?_, hlt, .inr (.inl ⟨k, b1, ?_, hk0, hb1⟩)⟩
         · rw [hρ.nm n k hk]
           exact fitBlk_ok hρ hone (h1.rb k b1 hb1)
         · have : srcOf st1 n w = .nm k := by rw [← e1]; exact hk0
           rw [← this]; exact e2
       · exact hone.elim
     · rename_i hv
       refine ⟨?_, hlt, .inr (.inr (by rw [← hb]; exact hv))⟩
       rw [hρ.virt n hv]
       split at hone
       · exact hone
       · exact hone.elim
     · exact hone.elim
 have plc : ∀ n blk b ln, (headSt A c st g).hp n = some blk → β2 n = .at b ln → ∃ k b1, findSrc ss n = .nm k ∧ st1.hp k = some b1 ∧ β1 k = .at b ln ∧ ((findHp l n = none ∧ k = n) ∨ (n, Src.nm k) ∈ ss) := fun n blk b ln hn hb => by
   obtain ⟨_, hlt, hcase⟩ := src n blk hn
   rcases hcase with ⟨h2, h3, h4, b1, h5⟩ | ⟨k, b1, h2, h3, h4⟩ | h2
   · exact ⟨n, b1, h4, h5, by rw [← oldβ n h3]; exact hb, .inl ⟨h2, rfl⟩⟩
   · exact ⟨k, b1, h3, h4, by rw [← hρ.nm n k (by rw [bnd n hlt]; exact h3)]; exact hb, .inr h2⟩
   · rw [hρ.virt n (by rw [bnd n hlt]; exact h2)] at hb; simp at hb
 have hsat : SatH E 0 (fun n => (headSt A c st g).nx ≤ n) β2 Z1 (headSt A c st g).hp w1 := by
   refine ⟨fun n blk hn => (src n blk hn).1, fun n blk b ln hn hb => ?_, fun n m x y b l1 l2 hn hm hb1 hb2 => ?_, h1.zlt, fun n hn => ?_, h1.gl⟩
   · obtain ⟨k, b1, _, h2, h3, _⟩ := plc n blk b ln hn hb
     exact h1.own k b1 b ln h2 h3
   · obtain ⟨k, bk, e1, h2, h3, h4⟩ := plc n x b l1 hn hb1
     obtain ⟨k', bk', e1', h2', h3', h4'⟩ := plc m y b l2 hm hb2
     have hkk := h1.inj k k' bk bk' b l1 l2 h2 h2' h3 h3'
     subst hkk
     have mixed : ∀ {n m : Nat}, findHp l n = none → n < st.nx + 16 → (m, Src.nm n) ∈ ss → n ∉ A.dom st → n < st.nx → n = m := fun {n m} hf hlt hm hnd hnx => by
       rcases n2 m n hm with h | h | ⟨z, hz, hze⟩
       · exact h
       · omega
       · exact absurd hze (findHp_none.1 hf z hz)
     rcases h4 with ⟨f1, rfl⟩ | h4
     · rcases h4' with ⟨f2, rfl⟩ | h4'
       · rfl
       · rcases n2 m k h4' with h | h | ⟨z, hz, hze⟩
         · exact h
         · have hblk : st.hp k = some x := by rw [hph, f1] at hn; exact hn
           have hβ0 : β0 k ≠ .no := fun e => by
             have := h0.heap.rb k x hblk
             rw [e] at this; cases x <;> exact this.elim
           exact absurd (known k hβ0) (by omega)
         · exact absurd hze (findHp_none.1 f1 z hz)
     · rcases h4' with ⟨f2, rfl⟩ | h4'
       · rcases n2 n k h4 with h | h | ⟨z, hz, hze⟩
         · exact h.symm
         · have hblk : st.hp k = some y := by rw [hph, f2] at hm; exact hm
           have hβ0 : β0 k ≠ .no := fun e => by
             have := h0.heap.rb k y hblk
             rw [e] at this; cases y <;> exact this.elim
           exact absurd (known k hβ0) (by omega)
         · exact absurd hze (findHp_none.1 f2 z hz)
       · exact n4 n m k h4 h4'
   · show headLoc st.nx ss β1 n = .no
     unfold headLoc
     rw [if_neg (by have : st.nx + 16 ≤ n := hn; omega)]
 refine ⟨β2, ⟨hsat, fun t => ?_, sz1⟩, ⟨ev, ext2, fun b hb => ?_, zown, Nat.le_add_right _ _, fun n hn => by simp [HS.of] at hn; simp [hn], fun n hn hw => ?_⟩⟩
 · show RA β2 Z1 w1 (match findTm (A.tm st g) t with | some v => v | none => (match writes c t with | true => .any | false => st.tm t)) _
   cases hf : findTm (A.tm st g) t with
   | some v => exact fitAV_ok hρ (fitTms_get htms hf) (tm1 t)
   | none =>
     cases hw : writes c t with
     | true => trivial
     | false =>
       simp only
       rw [slots t hw]
       exact RA.mono ev h0.heap.calm ext2 (h0.tm t)
 · obtain ⟨n, blk, ln, hn, hb⟩ := hb
   obtain ⟨k, b1, _, h2, h3, _⟩ := plc n blk b ln hn hb
   exact own b ⟨k, b1, ln, h2, h3⟩
 · simp only [List.mem_append, not_or] at hw
   have : findHp l n = none := findHp_none.2 fun x hx e => hw.1 (by rw [hdom]; exact List.mem_map.2 ⟨x, hx, e⟩)
   show (match findHp l n with | some (_, b) => b | none => st.hp n) = st.hp n
   rw [this]
end
end Go.Sx
namespace Go.Sx
def markOf (r : Nat) : Deferred := { target := .collected r, args := #[] }
def Marks (B0 : Nat) (x : HS) (ds : List Deferred) : Prop :=
 B0 ≤ x.w.heap.size ∧ ∃ l : List Nat, ds = l.map markOf ∧ l.Nodup ∧ ∀ r ∈ l, B0 ≤ r ∧ x.w.heap[r]? = some (.deferred (some [])) ∧ ¬ Own x.β x.hp r ∧ ¬ x.Z r
def RoundOk (ro : Option Nat) (w : World) : Prop := ∀ l, ro = some l → ∃ r, w.heap[l]? = some (.loop r)
theorem Marks.turn {B0 : Nat} {x y : HS} {ds : List Deferred} (h : Marks B0 x ds) (t : Turn x y) : Marks B0 y ds := by
 obtain ⟨h0, l, rfl, h2, h3⟩ := h
 refine ⟨Nat.le_trans h0 t.ev.size, l, rfl, h2, fun r hr => ?_⟩
 obtain ⟨a0, a1, a2, a3⟩ := h3 r hr
 have hlt : r < x.w.heap.size := (Array.getElem?_eq_some_iff.1 a1).1
 refine ⟨a0, by rw [t.ev.same r hlt a2]; exact a1, fun ho => ?_, fun hz => ?_⟩
 · rcases t.own r ho with h | h
   · exact a2 h
   · omega
 · rcases t.zown r hz with h | h | h
   · exact a3 h
   · exact a2 h
   · omega
theorem RoundOk.turn {ro : Option Nat} {x y : HS} (h : RoundOk ro x.w) (t : Turn x y) : RoundOk ro y.w := fun l hl =>
 let ⟨r, hr⟩ := h l hl
 let ⟨r', hr', _⟩ := t.ev.loops l r hr
 ⟨r', hr'⟩
def Post (E : Env) (B0 : Nat) (Q : Exit → St → Prop) (c : Code) (x : HS) (sz : Nat) (a : Act) : Exit → Act → World → Prop := fun e a' w' =>
 ∃ st' β' Z', Q e st' ∧ Sat E st' β' Z' a' w' ∧ Turn x (HS.of st' β' Z' w') ∧ st'.sz = sz ∧ (∀ t, writes c t = false → a'.tmps.getD t undef = a.tmps.getD t undef) ∧ Marks B0 (HS.of st' β' Z' w') a'.defers
def CodeOk (P : Program) (E : Env) (c : Code) (f : St → (Exit → St → Prop) → Prop) : Prop :=
 ∀ st Q, f st Q → ∀ ro B0 β Z a w, Sat E st β Z a w → Marks B0 (HS.of st β Z w) a.defers → RoundOk ro w → c.wpIn (Fn ro) 0 P (Post E B0 Q c (HS.of st β Z w) st.sz a) a w
section
variable {P : Program} {E : Env} {β β' : Nat → Loc} {Z Z' : Nat → Prop} {hp : Hp} {w w' : World} {inl : CallVC} {yld : YieldVC}
def KnOk (kn : Nat → Option Bool) (a : Act) : Prop := ∀ d b, kn d = some b → a.tmps.getD d undef = .bool b
theorem KnOk.upd {kn : Nat → Option Bool} {a : Act} (h : KnOk kn a) {d : Nat} {b : Bool} (hb : a.tmps.getD d undef = .bool b) : KnOk (upd kn d (some b)) a := fun d' b' h' => by
 by_cases e : d' = d
 · subst e; rw [upd_same] at h'; injection h' with h'; subst h'; exact hb
 · rw [upd_ne _ _ e] at h'; exact h d' b' h'
theorem split_ok {kn : Nat → Option Bool} {d : Nat} {x : AV} {K : (Nat → Option Bool) → Bool → Prop} {a : Act} (h : split kn d x K) (hx : RA β Z w x (a.tmps.getD d undef)) (hk : KnOk kn a) :
   ∃ kn' t, K kn' t ∧ a.tmps.getD d undef = .bool t ∧ KnOk kn' a := by
 unfold split at h
 split at h
 · rename_i t ht
   exact ⟨kn, t, h, hk d t ht, hk⟩
 · split at h
   · exact ⟨kn, true, h, hx, hk⟩
   · exact ⟨kn, false, h, hx, hk⟩
   · rename_i b
     have hb : a.tmps.getD d undef = .bool b := hx
     cases b
     · exact ⟨_, false, h.2 rfl, hb, hk.upd hb⟩
     · exact ⟨_, true, h.1 rfl, hb, hk.upd hb⟩
   · exact h.elim
theorem forget_ok {kn : Nat → Option Bool} {a a' : Act} (h : KnOk kn a) {dst : Option Nat} (keep : ∀ t, dst ≠ some t → a'.tmps.getD t undef = a.tmps.getD t undef) : KnOk (forget kn dst) a' := fun d b hb => by
 cases dst with
 | none => rw [keep d (by simp)]; exact h d b hb
 | some e =>
   simp only [forget] at hb
   by_cases e1 : d = e
   · subst e1; rw [upd_same] at hb; simp at hb
   · rw [upd_ne _ _ e1] at hb
     rw [keep d (by simp [Ne.symm e1])]; exact h d b hb
theorem wanted_of {ops : Array Oper} {o : Oper} {j d : Nat} {want t : Bool} {a : Act} (hg : o.guard = some (j, want)) (hs : slotOf ops.toList j = some d) (ht : a.tmps.getD d undef = .bool t) :
   Region.wanted o (yielded ops a.tmps) = same t want := by
 have hd : (ops[j]?).bind (·.dst) = some d := by
   unfold slotOf at hs
   rw [Array.getElem?_toList] at hs
   split at hs
   · rename_i o' ho'; simp [ho', hs]
   · simp at hs
 have hv : a.tmps[d]? = some (.bool t) := by
   rw [Array.getD_eq_getD_getElem?] at ht
   cases h : a.tmps[d]? with
   | none => rw [h] at ht; simp [undef] at ht
   | some v => rw [h] at ht; simp at ht; rw [ht]
 have hy : yielded ops a.tmps j = some t := by
   unfold yielded
   simp [hd, hv]
 unfold Region.wanted
 simp only [hg, hy]
 cases t <;> cases want <;> rfl
theorem isSkip_ok {x : AV} (h : isSkip x = true) : x = .tup [] := by
 unfold isSkip at h
 split at h
 · rfl
 · cases h
theorem ra_skip {w : World} {β : Nat → Loc} {Z : Nat → Prop} : RA β Z w (.tup []) undef := ⟨#[], rfl, rfl, fun i x h => by simp at h⟩
theorem ra_skip_eq {w : World} {β : Nat → Loc} {Z : Nat → Prop} {v : Value} (h : RA β Z w (.tup []) v) : v = undef := by
 obtain ⟨vs, rfl, h1, _⟩ := h
 have : vs = #[] := by simpa using h1
 rw [this]; rfl
theorem wanted_skip {ops : Array Oper} {o : Oper} {j d : Nat} {want : Bool} {a : Act} (hg : o.guard = some (j, want)) (hs : slotOf ops.toList j = some d) (ht : a.tmps.getD d undef = undef) :
   Region.wanted o (yielded ops a.tmps) = false := by
 have hd : (ops[j]?).bind (·.dst) = some d := by
   unfold slotOf at hs
   rw [Array.getElem?_toList] at hs
   split at hs
   · rename_i o' ho'; simp [ho', hs]
   · simp at hs
 have hy : yielded ops a.tmps j = none := by
   unfold yielded
   rw [hd]
   rw [Array.getD_eq_getD_getElem?] at ht
   cases h : a.tmps[d]? with
   | none => simp [h]
   | some v => rw [h] at ht; simp at ht; subst ht; simp [h, undef]
 unfold Region.wanted
 simp only [hg, hy]
 rfl
def GSay (ops : List Oper) (o : Oper) (tm : Nat → AV) (run : Bool) : Prop :=
 (o.guard = none ∧ run = true) ∨ (∃ j want d t, o.guard = some (j, want) ∧ slotOf ops j = some d ∧ truth (tm d) = some t ∧ run = same t want) ∨
 (∃ j want d, o.guard = some (j, want) ∧ slotOf ops j = some d ∧ tm d = .tup [] ∧ run = false)
theorem frzOne_ok {st : St} {a : Act} {t : Nat} (h : Sat E st β Z a w) : ∃ Z', Sat E (frzOne t st) β Z' a w ∧ Turn (HS.of st β Z w) (HS.of (frzOne t st) β Z' w) ∧ (frzOne t st).sz = st.sz := by
 have id_ : frzOne t st = st → ∃ Z', Sat E (frzOne t st) β Z' a w ∧ Turn (HS.of st β Z w) (HS.of (frzOne t st) β Z' w) ∧ (frzOne t st).sz = st.sz := fun e => by rw [e]; exact ⟨Z, h, Turn.refl _, rfl⟩
 cases htm : st.tm t with
 | any => exact id_ (by unfold frzOne; rw [htm])
 | tup => exact id_ (by unfold frzOne; rw [htm])
 | t x =>
   cases x with
   | a => exact id_ (by unfold frzOne; rw [htm])
   | c x =>
     by_cases hx : ∃ n sz l, x = .os n sz l
     · obtain ⟨n, sz, l, rfl⟩ := hx
       cases hn : st.hp n with
       | none => exact id_ (by unfold frzOne; rw [htm]; simp only [hn])
       | some b =>
         cases b with
         | box => exact id_ (by unfold frzOne; rw [htm]; simp only [hn])
         | mp => exact id_ (by unfold frzOne; rw [htm]; simp only [hn])
         | mpI => exact id_ (by unfold frzOne; rw [htm]; simp only [hn])
         | mq => exact id_ (by unfold frzOne; rw [htm]; simp only [hn])
         | lp => exact id_ (by unfold frzOne; rw [htm]; simp only [hn])
         | row e size len get =>
           cases hb : Nat.beq sz size with
           | false => exact id_ (by unfold frzOne; rw [htm]; simp only [hn, hb])
           | true =>
             have e1 : frzOne t st = { tm := upd st.tm t (.t (.c (.vs size len get))), sz := st.sz, hp := upd st.hp n none, nx := st.nx, wl := n :: st.wl } := by unfold frzOne; rw [htm]; simp only [hn, hb]
             rw [e1]
             have hfz := h.heap.freeze n
             have hu : ROs w (β n) sz l (a.tmps.getD t undef) := by have := h.tm t; rw [htm] at this; exact this
             refine ⟨_, ⟨hfz.sat, fun d => ?_, h.sz⟩, ⟨hfz.ev, hfz.ext, hfz.own, hfz.zown, Nat.le_refl _, fun m hm => List.mem_cons_of_mem _ hm, fun m _ hm => ?_⟩, rfl⟩
             · show RA β _ w (upd st.tm t (.t (.c (.vs size len get))) d) _
               by_cases e : d = t
               · subst e; rw [upd_same]; exact RC.of_RP (os_froze h.heap hn hu)
               · rw [upd_ne _ _ e]; exact RA.mono hfz.ev h.heap.calm hfz.ext (h.tm d)
             · show upd st.hp n none m = st.hp m
               exact upd_ne _ _ (fun e => hm (by rw [e]; exact List.mem_cons_self ..))
     · refine id_ ?_
       unfold frzOne
       rw [htm]
       cases x <;> first | rfl | exact absurd ⟨_, _, _, rfl⟩ hx
theorem frzAll_ok : ∀ {l : List Nat} {st : St} {Z : Nat → Prop} {a : Act}, Sat E st β Z a w → ∃ Z', Sat E (frzAll l st) β Z' a w ∧ Turn (HS.of st β Z w) (HS.of (frzAll l st) β Z' w) ∧ (frzAll l st).sz = st.sz
 | [], st, Z, a, h => ⟨Z, h, Turn.refl _, rfl⟩
 | t :: l, st, Z, a, h => by
   obtain ⟨Z1, h1, t1, s1⟩ := frzOne_ok (t := t) h
   obtain ⟨Z2, h2, t2, s2⟩ := frzAll_ok (l := l) h1
   exact ⟨Z2, h2, t1.trans t2, s2.trans s1⟩
theorem frzAll_has : ∀ {l : List Nat} {st : St} {d : Option Nat}, (frzAll l st).sz = st.sz → st.has d = true → (frzAll l st).has d = true := fun {l st d} hs h => by
 cases d with
 | none => rfl
 | some d => simpa only [St.has, hs] using h
theorem one_sound (hE : EnvOk P E) (hI : InlOk P E inl) (hIf : InlFn E inl) (hY : YldOk P E yld) {kn : Nat → Option Bool} {o : Oper} {st : St} {K : (Nat → Option Bool) → St → Prop} {a : Act} {ro : Option Nat} {Q' : Exit → Act → World → Prop}
   (h : vcOne E inl yld kn o st K) (hs : Sat E st β Z a w) (hk : KnOk kn a) : o.wpIn (Fn ro) 0 P a w (fun a' w' => ∃ kn', KnOk kn' a' ∧ OpPost E (HS.of st β Z w) st.sz o.dst a (K kn') a' w') Q' := by
 unfold vcOne at h
 split at h
 · rename_i hh
   split at h
   · rename_i c x y hop
     obtain ⟨kn', t, h1, h2, h3⟩ := split_ok h (hs.tm c) hk
     refine ⟨fun _ _ => trivial, ?_⟩
     rw [Oper.semAt_eq _ _ _ (fun c hc => by rw [hop] at hc; simp at hc)]
     have hrun : (execOp a.eval o).run P w = .ok (.value (if t then a.eval x else a.eval y)) w := by
       have : a.eval (.tmp c) = .bool t := h2
       simp [execOp, hop, this, asBool]
     rw [hrun]
     have hok4 : (⟨β, Z, st.hp, st.nx + 4, st.wl, w⟩ : HS).ok E := hs.heap.weaken (fun n (hn : st.nx + 4 ≤ n) => by omega)
     have hp1 := OpPost.of (val := if t then a.eval x else a.eval y) (K := K (forget kn' o.dst)) hs hh hok4 ⟨Evo.refl _ _ _, Ext.refl _, fun _ h => .inl h, fun _ h => .inl h, Nat.le_add_right _ _, fun _ h => h, fun _ _ _ => rfl⟩
       (v := pickV t (evalO E st.tm x) (evalO E st.tm y)) (by cases t; exact eval_ok hs.heap.gl hs.tm y; exact eval_ok hs.heap.gl hs.tm x) h1
     exact ⟨_, forget_ok h3 (fun t' ht' => by rw [getD_put, if_neg (fun hh => ht' hh.1)]), hp1⟩
   · obtain ⟨Z1, hs1, ht1, hz1⟩ := frzAll_ok (l := tmpsOf o) hs
     have := step_sound (K := K (forget kn o.dst)) hE hI hIf hY (ro := ro) (Q' := Q') (frzAll_has hz1 hh) h hs1
     refine Oper.wpIn_mono (fun a' w' hp => ?_) this
     obtain ⟨st', β', Z', q1, q2, q3, q4, q5, q6⟩ := hp
     exact ⟨_, forget_ok hk q5, st', β', Z', q1, q2, ht1.trans q3, q4.trans hz1, q5, q6⟩
   · have := step_sound (K := K (forget kn o.dst)) hE hI hIf hY (ro := ro) (Q' := Q') hh h hs
     refine Oper.wpIn_mono (fun a' w' hp => ?_) this
     obtain ⟨st', β', Z', q1, q2, q3, q4, q5, q6⟩ := hp
     exact ⟨_, forget_ok hk q5, st', β', Z', q1, q2, q3, q4, q5, q6⟩
 · exact h.elim
theorem skip_ok {st : St} {a : Act} {dst : Option Nat} (hs : Sat E st β Z a w) (hd : st.has dst = true) : Sat E (st.next dst (.tup []) st.hp (st.nx + 4) st.wl) β Z (a.put dst undef) w ∧ Turn (HS.of st β Z w) (HS.of (st.next dst (.tup []) st.hp (st.nx + 4) st.wl) β Z w) := by
 have hok4 : (⟨β, Z, st.hp, st.nx + 4, st.wl, w⟩ : HS).ok E := hs.heap.weaken (fun n (hn : st.nx + 4 ≤ n) => by omega)
 exact ⟨hs.next (y := ⟨β, Z, st.hp, st.nx + 4, st.wl, w⟩) hd hok4 (Evo.refl _ _ _) (Ext.refl _) ra_skip,
   ⟨Evo.refl _ _ _, Ext.refl _, fun _ h => .inl h, fun _ h => .inl h, Nat.le_add_right _ _, fun _ h => h, fun _ _ _ => rfl⟩⟩
theorem ops_sound (hE : EnvOk P E) (hI : InlOk P E inl) (hIf : InlFn E inl) (hY : YldOk P E yld) {ops : Array Oper} {K : St → Prop} {ro : Option Nat} {Q : Exit → Act → World → Prop} {x0 : HS} {sz : Nat} {a0 : Act}
   (hK : ∀ st' β' Z' a' w', K st' → Sat E st' β' Z' a' w' → Turn x0 (HS.of st' β' Z' w') → st'.sz = sz → (∀ t, (∀ o ∈ ops.toList, o.dst ≠ some t) → a'.tmps.getD t undef = a0.tmps.getD t undef) → a'.defers = a0.defers → Q .normal a' w') :
   ∀ (rest : List Oper), (∀ o ∈ rest, o ∈ ops.toList) → ∀ (kn : Nat → Option Bool) (st : St) (β : Nat → Loc) (Z : Nat → Prop) (a : Act) (w : World), vcOps E inl yld ops.toList rest kn st K → KnOk kn a → Sat E st β Z a w → Turn x0 (HS.of st β Z w) → st.sz = sz →
     (∀ t, (∀ o ∈ ops.toList, o.dst ≠ some t) → a.tmps.getD t undef = a0.tmps.getD t undef) → a.defers = a0.defers → wpListIn (Fn ro) 0 P ops Q rest a w
 | [], _, kn, st, β, Z, a, w, h, hk, hs, ht, hsz, hkeep, hdef => hK st β Z a w h hs ht hsz hkeep hdef
 | o :: rest, hsub, kn, st, β, Z, a, w, h, hk, hs, ht, hsz, hkeep, hdef => by
   have ho : o ∈ ops.toList := hsub o (by simp)
   have go := ops_sound hE hI hIf hY (ro := ro) (Q := Q) hK rest (fun o' h' => hsub o' (by simp [h']))
   have one : ∀ {kn : Nat → Option Bool}, KnOk kn a → vcOne E inl yld kn o st (fun kn st => vcOps E inl yld ops.toList rest kn st K) → o.wpIn (Fn ro) 0 P a w (wpListIn (Fn ro) 0 P ops Q rest) Q := fun {kn} hk h => by
     refine Oper.wpIn_mono (fun a' w' hp => ?_) (one_sound hE hI hIf hY h hs hk)
     obtain ⟨kn', hk', st', β', Z', q1, q2, q3, q4, q5, q6⟩ := hp
     exact go kn' st' β' Z' a' w' q1 hk' q2 (ht.trans q3) (q4.trans hsz) (fun t h => (q5 t (h o ho)).trans (hkeep t h)) (q6.trans hdef)
   simp only [vcOps] at h
   simp only [wpListIn]
   split at h
   · rename_i hg
     rw [if_pos (by simp [Region.wanted, hg])]
     exact one hk h
   · rename_i j want hg
     split at h
     · rename_i d hd
       have skip : ∀ kn', KnOk kn' a → Region.wanted o (yielded ops a.tmps) = false → (match st.has o.dst with
         | true => vcOps E inl yld ops.toList rest (forget kn' o.dst) (st.next o.dst (.tup []) st.hp (st.nx + 4) st.wl) K
         | false => False) → (if Region.wanted o (yielded ops a.tmps) = true then o.wpIn (Fn ro) 0 P a w (wpListIn (Fn ro) 0 P ops Q rest) Q else (∀ f, o.about P w a.eval = some f → (Fn ro).fn f) ∧ wpListIn (Fn ro) 0 P ops Q rest (a.put o.dst undef) w) := fun kn' h3 hw h1 => by
         rw [hw, if_neg (by simp)]
         split at h1
         · rename_i hh
           obtain ⟨s1, s2⟩ := skip_ok hs hh
           refine ⟨fun _ _ => trivial, go _ _ β Z _ w h1 (forget_ok h3 (fun t' ht' => by rw [getD_put, if_neg (fun hh => ht' hh.1)])) s1 (ht.trans s2) hsz (fun t h => ?_) ?_⟩
           · rw [getD_put, if_neg (fun hh => h o ho hh.1)]; exact hkeep t h
           · rw [← hdef]; cases o.dst <;> rfl
         · exact h1.elim
       split at h
       · rename_i hsk
         have hr := hs.tm d
         rw [isSkip_ok hsk] at hr
         exact skip kn hk (wanted_skip hg hd (ra_skip_eq hr)) h
       · obtain ⟨kn', t, h1, h2, h3⟩ := split_ok h (hs.tm d) hk
         have hwt := wanted_of hg hd h2
         split at h1
         · rename_i he
           rw [hwt, he, if_pos rfl]
           exact one h3 h1
         · rename_i he
           exact skip kn' h3 (hwt.trans he) h1
     · exact h.elim
end
end Go.Sx
namespace Go.Sx
section
variable {P : Program} {E : Env} {β β' : Nat → Loc} {Z Z' : Nat → Prop} {hp : Hp} {w w' : World} {inl : CallVC} {yld : YieldVC}
def setO (D : Option (Nat × Option Blk)) (hp : Hp) : Hp := match D with | some m => upd hp m.1 m.2 | none => hp
def wlO (D : Option (Nat × Option Blk)) (wl : List Nat) : List Nat := match D with | some m => m.1 :: wl | none => wl
def StepSem (P : Program) (E : Env) (far : Nat) (hpM : Hp) (tmM : Nat → AV) (nx : Nat) (o : Oper) (v : AV) (hp' : Hp) (D : Option (Nat × Option Blk)) : Prop :=
 ∀ (ro : Option Nat) (Fr : Nat → Prop) (β : Nat → Loc) (Z : Nat → Prop) (hp : Hp) (w : World) (a : Act) (Q' : Exit → Act → World → Prop), SatH E 0 Fr β Z hp w → (∀ n, nx ≤ n → n < nx + 4 → Fr n) → (∀ n, nx + far ≤ n → Fr n) →
   (∀ n blk, hpM n = some blk → hp n = some blk) → (∀ t, RA β Z w (tmM t) (a.tmps.getD t undef)) →
   o.wpIn (Fn ro) 0 P a w (fun a' w' => ∃ val β' Z', a' = a.put o.dst val ∧ RA β' Z' w' v val ∧ Left E 0 (fun n => Fr n ∧ ¬ (nx ≤ n ∧ n < nx + 4)) β Z hp w β' Z' (fun n => if nx ≤ n ∧ n < nx + 4 then hp' n else setO D hp n) w') Q'
theorem evenPre_val {R : ESpec} {args : List TV} {hp : Nat → Option Blk} {K : AV → Prop} (h : evenPre R args hp K) : ∃ v, evenPre R args hp (fun v' => v' = v) ∧ K v := by
 obtain ⟨g, hg, h⟩ := h
 split at h
 · rename_i ns hns
   obtain ⟨h1, h2, h3, h4, h5⟩ := h
   exact ⟨_, ⟨g, hg, by rw [hns]; exact ⟨h1, h2, h3, h4, rfl⟩⟩, h5⟩
 · exact h.elim
theorem Left.hp_eq {Fr' : Nat → Prop} {hp1 hp2 : Hp} (h : Left E 0 Fr' β Z hp w β' Z' hp1 w') (e : ∀ n, hp2 n = hp1 n) : Left E 0 Fr' β Z hp w β' Z' hp2 w' := by
 have : hp2 = hp1 := funext e
 rw [this]; exact h
def KnT (kn : Nat → Option Bool) (tm : Nat → AV) : Prop := ∀ d t, kn d = some t → truth (tm d) = some t
theorem split_abs {kn : Nat → Option Bool} {d : Nat} {tm : Nat → AV} {K : (Nat → Option Bool) → Bool → Prop} (h : split kn d (tm d) K) (hk : KnT kn tm) : ∃ kn' t, K kn' t ∧ truth (tm d) = some t ∧ KnT kn' tm := by
 unfold split at h
 split at h
 · rename_i t ht
   exact ⟨kn, t, h, hk d t ht, hk⟩
 · have up : ∀ {b : Bool}, truth (tm d) = some b → KnT (upd kn d (some b)) tm := fun {b} hb d' b' h' => by
     by_cases e : d' = d
     · subst e; rw [upd_same] at h'; injection h' with h'; subst h'; exact hb
     · rw [upd_ne _ _ e] at h'; exact hk d' b' h'
   split at h
   · rename_i hd; exact ⟨kn, true, h, by rw [hd]; rfl, hk⟩
   · rename_i hd; exact ⟨kn, false, h, by rw [hd]; rfl, hk⟩
   · rename_i b hd
     have hb : truth (tm d) = some b := by rw [hd]; rfl
     cases b
     · exact ⟨_, false, h.2 rfl, hb, up hb⟩
     · exact ⟨_, true, h.1 rfl, hb, up hb⟩
   · exact h.elim
theorem forget_abs {kn : Nat → Option Bool} {tm : Nat → AV} {dst : Option Nat} {v : AV} (h : KnT kn tm) : KnT (forget kn dst) (match dst with | some d => upd tm d v | none => tm) := fun d b hb => by
 cases dst with
 | none => exact h d b hb
 | some e =>
   simp only [forget] at hb
   by_cases e1 : d = e
   · subst e1; rw [upd_same] at hb; simp at hb
   · rw [upd_ne _ _ e1] at hb
     simp only; rw [upd_ne _ _ e1]; exact h d b hb
theorem masked_mem {tm : Nat → AV} {l : List Nat} {t : Nat} (h : t ∈ l) : masked tm l t = tm t := by
 unfold masked
 have : l.any (Nat.beq t) = true := List.any_eq_true.2 ⟨t, h, Nat.beq_refl t⟩
 rw [this]
theorem masked_or {tm : Nat → AV} {l : List Nat} {t : Nat} : (t ∈ l ∧ masked tm l t = tm t) ∨ masked tm l t = .any := by
 unfold masked
 cases h : l.any (Nat.beq t) with
 | true =>
   obtain ⟨x, hx, e⟩ := List.any_eq_true.1 h
   have := Nat.eq_of_beq_eq_true e
   subst this
   exact .inl ⟨hx, rfl⟩
 | false => exact .inr rfl
theorem RC.swap (hx : Ext β β') : ∀ {x : CV} {v0 v : Value}, RC β Z w x v0 → RC β' Z' w' x v → RC β Z' w' x v := by
 have at_ : ∀ {n b ln b' ln' : Nat}, β n = .at b ln → β' n = .at b' ln' → β n = .at b' ln' := fun {n b ln b' ln'} h h' => by rw [← hx n (by rw [h]; simp), h']
 intro x
 induction x with
 | ptr n off => rintro v0 v ⟨b, ln, hb, _⟩ ⟨b', ln', hb', h⟩; exact ⟨b', ln', at_ hb hb', h⟩
 | ep n size i off => rintro v0 v ⟨b, ln, hb, _⟩ ⟨b', ln', hb', h⟩; exact ⟨b', ln', at_ hb hb', h⟩
 | ax n off i sz len fo => rintro v0 v ⟨b, ln, hb, _⟩ ⟨b', ln', hb', h⟩; exact ⟨b', ln', at_ hb hb', h⟩
 | mp n => rintro v0 v ⟨b, ln, hb, _⟩ ⟨b', ln', hb', h⟩; exact ⟨b', ln', at_ hb hb', h⟩
 | yl n => rintro v0 v ⟨b, ln, hb, _⟩ ⟨b', ln', hb', h⟩; exact ⟨b', ln', at_ hb hb', h⟩
 | os n size len =>
   intro v0 v h h'
   have h0 : ROs w (β n) size len v0 := h
   have h1 : ROs w' (β' n) size len v := h'
   show ROs w' (β n) size len v
   rw [← hx n (fun e => by rw [e] at h0; exact h0)]; exact h1
 | fn f sh first nc cap ih1 ih2 =>
   rintro v0 v ⟨fs0, cs0, _, a1, a2, a3, a4⟩ ⟨fs, cs, rfl, b1, b2, b3, b4⟩
   refine ⟨fs, cs, rfl, b1, b2, fun i hi => ?_, fun i s hs => ?_⟩
   · obtain ⟨u0, _, r0⟩ := a3 i hi
     obtain ⟨u, hu, r⟩ := b3 i hi
     exact ⟨u, hu, ih2 i r0 r⟩
   · obtain ⟨u0, _, r0⟩ := a4 i s hs
     obtain ⟨u, hu, r⟩ := b4 i s hs
     refine ⟨u, hu, ?_⟩
     cases s with
     | none => exact ih1 i 0 r0 r
     | some n =>
       obtain ⟨xs0, _, _, y0⟩ := r0
       obtain ⟨xs, e, hx, y1⟩ := r
       exact ⟨xs, e, hx, fun j hj => let ⟨_, _, p0⟩ := y0 j hj; let ⟨y, hy, p⟩ := y1 j hj; ⟨y, hy, ih1 i j p0 p⟩⟩
 | ip n get => intro v0 v _ h; exact h
 | vs size len get => intro v0 v _ h; exact h
 | _ => intro v0 v _ h; exact h
theorem RT.swap (hx : Ext β β') {x : TV} {v0 v : Value} (h0 : RT β Z w x v0) (h : RT β' Z' w' x v) : RT β Z' w' x v := by
 cases x with
 | c x => exact RC.swap hx h0 h
 | a n get =>
   obtain ⟨cs0, _, _, y0⟩ := h0
   obtain ⟨cs, e, h1, y⟩ := h
   exact ⟨cs, e, h1, fun j hj => let ⟨_, _, p0⟩ := y0 j hj; let ⟨u, hu, p⟩ := y j hj; ⟨u, hu, RC.swap hx p0 p⟩⟩
theorem RA.swap (hx : Ext β β') {x : AV} {v0 v : Value} (h0 : RA β Z w x v0) (h : RA β' Z' w' x v) : RA β Z' w' x v := by
 cases x with
 | any => trivial
 | t x => exact RT.swap hx h0 h
 | tup l =>
   obtain ⟨vs0, _, _, y0⟩ := h0
   obtain ⟨vs, e, h1, y⟩ := h
   exact ⟨vs, e, h1, fun i x hi => let ⟨_, _, p0⟩ := y0 i x hi; let ⟨u, hu, p⟩ := y i x hi; ⟨u, hu, RT.swap hx p0 p⟩⟩
theorem RB.swap (hx : Ext β β') {l : Loc} {x : Blk} (h0 : RB β Z w l x) (h : RB β' Z' w' l x) : RB β Z' w' l x := by
 cases l with
 | no => cases x <;> exact h.elim
 | virt => cases x <;> first | exact h | exact h.elim
 | «at» b ln =>
   cases x with
   | box n get =>
     obtain ⟨cs0, e0, _, q0, y0⟩ := h0
     obtain ⟨cs, e, h1, h2, y⟩ := h
     exact ⟨cs, e, h1, h2, fun j hj => let ⟨_, _, p0⟩ := y0 j hj; let ⟨u, hu, p⟩ := y j hj; ⟨u, hu, RC.swap hx p0 p⟩⟩
   | row e size len get => exact h
   | mp T m => exact h
   | mpI T I => exact h
   | mq T m c => exact h
   | lp fid sz tm ps asg body busy pend =>
     obtain ⟨r0, _, _, y0, _⟩ := h0
     obtain ⟨r, h1, h2, y, h4⟩ := h
     exact ⟨r, h1, h2, fun t => RA.swap hx (y0 t) (y t), h4⟩
theorem fitRes_ok {v : AV} {l : List TV} {val : Value} (hres : fitRes v l) (yv : RA β Z w v val) : RA (fun _ => .no) Z w (resAV l) val := by
 unfold fitRes at hres
 split at hres
 · rename_i x0
   split at hres
   · exact fitTV_ok (β1 := β) (β2 := fun _ => .no) named_bad hres yv
   · exact hres.elim
 · rename_i xs
   have tups : recTVs (fun _ => .bad) xs l → RA (fun _ => .no) Z w (.tup l) val := fun hres => by
     obtain ⟨us, rfl, u1, u2⟩ := yv
     have key : ∀ {xs l : List TV}, recTVs (fun _ => .bad) xs l → xs.length = l.length ∧ ∀ (i : Nat) (y0 : TV), l[i]? = some y0 → ∃ x0, xs[i]? = some x0 ∧ fitTV (fun _ => .bad) x0 y0 := by
       intro xs
       induction xs with
       | nil => intro l h; cases l with
         | nil => exact ⟨rfl, fun i y0 h => by simp at h⟩
         | cons => exact h.elim
       | cons a xs ih => intro l h; cases l with
         | nil => exact h.elim
         | cons c l =>
           obtain ⟨k1, k2⟩ := ih h.2
           refine ⟨by simp [k1], fun i y0 hy => ?_⟩
           cases i with
           | zero => simp at hy; subst hy; exact ⟨a, by simp, h.1⟩
           | succ i => obtain ⟨x0, q1, q2⟩ := k2 i y0 (by simpa using hy); exact ⟨x0, by simpa using q1, q2⟩
     obtain ⟨k1, k2⟩ := key hres
     refine ⟨us, rfl, by rw [u1, k1], fun i y0 hy => ?_⟩
     obtain ⟨x0, q1, q2⟩ := k2 i y0 hy
     obtain ⟨u, hu, hr⟩ := u2 i x0 q1
     exact ⟨u, hu, fitTV_ok (β1 := β) (β2 := fun _ => .no) named_bad q2 hr⟩
   split at hres
   · exact hres.elim
   · rename_i hne
     have : resAV l = .tup l := by
       match l, hne with
       | [], _ => rfl
       | [z], hne => exact absurd rfl (hne z)
       | _ :: _ :: _, _ => rfl
     rw [this]
     exact tups hres
 · exact hres.elim
theorem peek_core (hI : InlOk P E inl) {f : FuncId} {args : List TV} {Fr : Nat → Prop} {hpT : Hp} {nx far : Nat} {see : Nat → Bool} {res : List TV}
   (h : inl f args (masH see hpT) (nx + far) [] fun v _ _ wl' => chk (wl'.all (Nat.ble (nx + far))) ∧ fitRes v res) (hs : SatH E 0 Fr β Z hp w) (hFar : ∀ n, nx + far ≤ n → Fr n) (hsub : ∀ n blk, masH see hpT n = some blk → hp n = some blk) (hfree : ∀ n, nx ≤ n → hpT n = none)
   {vs : List Value} (hr : RL β Z w args vs) : CallsIn Fence.wide 0 P f vs.toArray w (fun e w' => ∃ val Z', e = .returned val ∧ RA β Z' w' (resAV res) val ∧ Left E 0 Fr β Z hp w β Z' hp w') := by
 have hin : ∀ n blk, masH see hpT n = some blk → n < nx := fun n blk hn => by
   apply Nat.lt_of_not_le
   intro hle
   unfold masH at hn
   split at hn
   · rw [hfree n hle] at hn; cases hn
   · cases hn
 have ownx : ∀ b, Own β (masH see hpT) b → Own β hp b := fun b ⟨n, blk, ln, h1, h2⟩ => ⟨n, blk, ln, hsub n blk h1, h2⟩
 have away : ∀ {n blk b ln}, masH see hpT n = none → hp n = some blk → β n = .at b ln → ¬ Own β (masH see hpT) b := fun {n blk b ln} h1 h2 h3 ⟨n', blk', ln', k1, k2⟩ => by
   have := hs.inj n n' blk blk' b ln ln' h2 (hsub _ _ k1) h3 k2
   subst this
   rw [h1] at k1; cases k1
 have hok : (HS.mk β Z (masH see hpT) (nx + far) [] w).ok E :=
   ⟨fun n blk hn => hs.rb n blk (hsub n blk hn), fun n blk b ln hn hb => hs.own n blk b ln (hsub n blk hn) hb, fun n m x y b l1 l2 h1 h2 => hs.inj n m x y b l1 l2 (hsub _ _ h1) (hsub _ _ h2), hs.zlt, fun n hn => hs.fresh n (hFar n hn), hs.gl⟩
 refine CallsIn.mono (hI f args ⟨β, Z, masH see hpT, nx + far, [], w⟩ _ h hok vs hr) fun e w' hp' => ?_
 obtain ⟨val, v, y, rfl, ⟨hwl, hres⟩, rfl, yok, yv, yt⟩ := hp'
 have hwl := chk_iff.1 hwl
 simp only [List.all_eq_true] at hwl
 have same : ∀ n blk, masH see hpT n = some blk → y.hp n = some blk := fun n blk hn => by
   rw [← hn]
   exact yt.frame n (by have := hin n blk hn; show n < nx + far; omega) (fun hm => by have := Nat.le_of_ble_eq_true (hwl n hm); have := hin n blk hn; omega)
 have yev : Evo (Own β (masH see hpT)) Z w y.Z y.w := yt.ev
 have hne : ∀ n blk, masH see hpT n = some blk → y.β n = β n := fun n blk hn => yt.ext n (fun e => by
   have hrb := hs.rb n blk (hsub n blk hn)
   have e : β n = .no := e
   rw [e] at hrb
   cases blk <;> exact hrb.elim)
 have zown : ∀ b, y.Z b → Z b ∨ Own β (masH see hpT) b ∨ w.heap.size ≤ b := fun b hb => yt.zown b hb
 refine ⟨val, y.Z, rfl, RA.mono (Evo.refl (fun _ => False) y.Z y.w) (fun b hb => ⟨yok.zlt b hb, fun h => h⟩) (fun n hn => absurd rfl hn) (fitRes_ok hres yv), ⟨⟨fun n blk hn => ?_, fun n blk b ln hn hb => ?_, hs.inj, yok.zlt, hs.fresh, yok.gl⟩, yev.weaken ownx, Ext.refl _, fun b hb => .inl hb, fun b hb => (zown b hb).imp id (fun h => h.imp (ownx b) id)⟩⟩
 · cases hm : masH see hpT n with
   | some blk' =>
     have := hsub n blk' hm
     rw [hn] at this
     injection this with this
     subst this
     have hrb := yok.rb n blk (same n blk hm)
     rw [hne n blk hm] at hrb
     exact RB.swap (β' := y.β) (fun n hn => yt.ext n hn) (hs.rb n blk hn) hrb
   | none =>
     exact RB.mono yev hok.calm (Ext.refl _) (fun b ln hb => yev.same b (hs.own n blk b ln hn hb).1 (away hm hn hb)) (hs.rb n blk hn)
 · obtain ⟨q1, q2, q3⟩ := hs.own n blk b ln hn hb
   refine ⟨Nat.lt_of_lt_of_le q1 yev.size, fun hz => ?_, q3⟩
   cases hm : masH see hpT n with
   | some blk' =>
     have := hsub n blk' hm
     rw [hn] at this
     injection this with this
     subst this
     exact (yok.own n blk b ln (same n blk hm) (by rw [hne n blk hm]; exact hb)).2.1 hz
   | none =>
     rcases zown b hz with h | h | h
     · exact q2 h
     · exact away hm hn hb h
     · omega
theorem steady_one (hE : EnvOk P E) (hI : InlOk P E inl) {far : Nat} {may see : Nat → Bool} {ops : List Oper} {kn : Nat → Option Bool} {o : Oper} {st : St} {K : (Nat → Option Bool) → St → Prop} (h : vcSteadyOne E inl far may see (looks ops o) kn o st K) (hk : KnT kn st.tm) (hfree : ∀ n, st.nx ≤ n → st.hp n = none) :
   st.has o.dst = true ∧ ∃ kn' v hp' D, KnT kn' (st.next o.dst v hp' (st.nx + 4) (wlO D st.wl)).tm ∧ K kn' (st.next o.dst v hp' (st.nx + 4) (wlO D st.wl)) ∧ (∀ n, ¬ (st.nx ≤ n ∧ n < st.nx + 4) → hp' n = setO D st.hp n) ∧ (∀ n x, D = some (n, x) → may n = true ∧ n < st.nx) ∧
     StepSem P E far (masH see st.hp) (masked st.tm (looks ops o)) st.nx o v hp' D := by
 unfold vcSteadyOne at h
 split at h
 · rename_i hh
   refine ⟨hh, ?_⟩
   split at h
   · rename_i c x y hop
     obtain ⟨kn', t, h1, h2, h3⟩ := split_abs h hk
     refine ⟨forget kn' o.dst, _, st.hp, none, forget_abs h3, h1, fun _ _ => rfl, fun _ _ h => by simp at h, ?_⟩
     intro ro Fr β Z hp w a Q' hs hFr hFar hsub ht
     refine ⟨fun _ _ => trivial, ?_⟩
     rw [Oper.semAt_eq _ _ _ (fun c hc => by rw [hop] at hc; simp at hc)]
     have hc : c ∈ looks ops o := List.mem_append_left _ (by unfold tmpsOf; rw [hop]; simp [Op.operands])
     have hb := ht c
     rw [masked_mem hc] at hb
     have hb' := truth_ok hb h2
     have hrun : (execOp a.eval o).run P w = .ok (.value (if t then a.eval x else a.eval y)) w := by
       have : a.eval (.tmp c) = .bool t := hb'
       simp [execOp, hop, this, asBool]
     rw [hrun]
     refine ⟨_, β, Z, rfl, ?_, (Left.same hs (fun n hn => hn.1)).hp_eq (fun n => ?_)⟩
     · cases t
       · exact eval_ok hs.gl ht y
       · exact eval_ok hs.gl ht x
     · split
       · rename_i hr; rw [hfree n hr.1]; exact (not_known hs (hs.fresh n (hFr n hr.1 hr.2))).symm
       · rfl
   · rename_i hnp
     have nodef : ∀ c, o.op ≠ .defer c := by
       intro c hc
       have : planOp E (masked st.tm (looks ops o)) (masH see st.hp) o = .bad := by unfold planOp; rw [hc]
       rw [this] at h
       exact h
     generalize hp0 : planOp E (masked st.tm (looks ops o)) (masH see st.hp) o = p at h
     cases p with
     | bad => exact h.elim
     | fz => exact h.elim
     | wz => exact h.elim
     | ycall => exact h.elim
     | ok c v =>
       simp only [vcSteady, conj_iff] at h
       refine ⟨forget kn o.dst, v, st.hp, none, forget_abs hk, h.2, fun _ _ => rfl, fun _ _ h => by simp at h, ?_⟩
       intro ro Fr β Z hp w a Q' hs hFr hFar hsub ht
       refine ⟨fun _ _ => trivial, ?_⟩
       rw [Oper.semAt_eq _ _ _ nodef]
       obtain ⟨nx, val, w', β', Z', hrun, hnx, hl, hv⟩ := op_ok hE.tab hE.maps hs (Nat.zero_le _) (nm := st.nx) (hFr _ (Nat.le_refl _) (by omega)) hsub ht (o := o) (hp' := hp) (v := v) (by rw [hp0]; exact h.1) (by rw [hp0]; rfl)
       rw [hrun]
       have hl' : Left E 0 (fun n => Fr n ∧ ¬ (st.nx ≤ n ∧ n < st.nx + 4)) β Z hp w β' Z' (fun n => if st.nx ≤ n ∧ n < st.nx + 4 then st.hp n else hp n) w' :=
         Left.hp_eq ⟨hl.sat.weaken (fun n hn => ⟨hn.1, by omega⟩), hl.ev, hl.ext, hl.own, hl.zown⟩ (fun n => by
           split
           · rename_i hr; rw [hfree n hr.1]; exact (not_known hs (hs.fresh n (hFr n hr.1 hr.2))).symm
           · rfl)
       rcases hnx with rfl | ⟨rfl, rfl⟩
       · exact ⟨val, β', Z', rfl, hv, hl'⟩
       · exact ⟨undef, β', Z', rfl, hv, hl'⟩
     | mk c b v =>
       simp only [vcSteady, conj_iff] at h
       refine ⟨forget kn o.dst, v st.nx, upd st.hp st.nx (some b), none, forget_abs hk, h.2, fun n hn => upd_ne _ _ (by omega), fun _ _ h => by simp at h, ?_⟩
       intro ro Fr β Z hp w a Q' hs hFr hFar hsub ht
       refine ⟨fun _ _ => trivial, ?_⟩
       rw [Oper.semAt_eq _ _ _ nodef]
       obtain ⟨nx, val, w', β', Z', hrun, hnx, hl, hv⟩ := op_ok hE.tab hE.maps hs (Nat.zero_le _) (nm := st.nx) (hFr _ (Nat.le_refl _) (by omega)) hsub ht (o := o) (hp' := upd hp st.nx (some b)) (v := v st.nx) (by rw [hp0]; exact h.1) (by rw [hp0]; rfl)
       rw [hrun]
       have hl' : Left E 0 (fun n => Fr n ∧ ¬ (st.nx ≤ n ∧ n < st.nx + 4)) β Z hp w β' Z' (fun n => if st.nx ≤ n ∧ n < st.nx + 4 then upd st.hp st.nx (some b) n else hp n) w' :=
         Left.hp_eq ⟨hl.sat.weaken (fun n hn => ⟨hn.1, by omega⟩), hl.ev, hl.ext, hl.own, hl.zown⟩ (fun n => by
           by_cases e : n = st.nx
           · subst e; simp [upd_same]
           · rw [upd_ne _ _ e, upd_ne _ _ e]
             split
             · rename_i hr; rw [hfree n hr.1]; exact (not_known hs (hs.fresh n (hFr n hr.1 hr.2))).symm
             · rfl)
       rcases hnx with rfl | ⟨rfl, rfl⟩
       · exact ⟨val, β', Z', rfl, hv, hl'⟩
       · exact ⟨undef, β', Z', rfl, hv, hl'⟩
     | mv c n b v =>
       simp only [vcSteady] at h
       split at h
       · rename_i hmay
         simp only [Bool.and_eq_true] at hmay
         have hlt : n < st.nx := Nat.le_of_ble_eq_true hmay.2
         rw [conj_iff] at h
         refine ⟨forget kn o.dst, v st.nx, upd (upd st.hp n none) st.nx (some b), some (n, none), forget_abs hk, h.2, fun q hq => upd_ne _ _ (by omega), fun q x hq => by injection hq with hq; injection hq with h1 h2; subst h1; exact ⟨hmay.1, hlt⟩, ?_⟩
         intro ro Fr β Z hp w a Q' hs hFr hFar hsub ht
         refine ⟨fun _ _ => trivial, ?_⟩
         rw [Oper.semAt_eq _ _ _ nodef]
         obtain ⟨nx, val, w', β', Z', hrun, hnx, hl, hv⟩ := op_ok hE.tab hE.maps hs (Nat.zero_le _) (nm := st.nx) (hFr _ (Nat.le_refl _) (by omega)) hsub ht (o := o) (hp' := upd (upd hp n none) st.nx (some b)) (v := v st.nx) (by rw [hp0]; exact h.1) (by rw [hp0]; rfl)
         rw [hrun]
         have hl' : Left E 0 (fun n => Fr n ∧ ¬ (st.nx ≤ n ∧ n < st.nx + 4)) β Z hp w β' Z' (fun q => if st.nx ≤ q ∧ q < st.nx + 4 then upd (upd st.hp n none) st.nx (some b) q else setO (some (n, none)) hp q) w' :=
           Left.hp_eq ⟨hl.sat.weaken (fun n hn => ⟨hn.1, by omega⟩), hl.ev, hl.ext, hl.own, hl.zown⟩ (fun q => by
             by_cases e : q = st.nx
             · subst e; simp [upd_same]
             · rw [upd_ne _ _ e, upd_ne _ _ e]
               split
               · rename_i hr; rw [upd_ne _ _ (by omega), upd_ne _ _ (by omega), hfree q hr.1]; exact (not_known hs (hs.fresh q (hFr q hr.1 hr.2))).symm
               · rfl)
         rcases hnx with rfl | ⟨rfl, rfl⟩
         · exact ⟨val, β', Z', rfl, hv, hl'⟩
         · exact ⟨undef, β', Z', rfl, hv, hl'⟩
       · exact h.elim
     | wr c n b =>
       simp only [vcSteady] at h
       split at h
       · rename_i hmay
         simp only [Bool.and_eq_true] at hmay
         have hlt : n < st.nx := Nat.le_of_ble_eq_true hmay.2
         rw [conj_iff] at h
         refine ⟨forget kn o.dst, .any, upd st.hp n (some b), some (n, some b), forget_abs hk, h.2, fun q hq => rfl, fun q x hq => by injection hq with hq; injection hq with h1 h2; subst h1; exact ⟨hmay.1, hlt⟩, ?_⟩
         intro ro Fr β Z hp w a Q' hs hFr hFar hsub ht
         refine ⟨fun _ _ => trivial, ?_⟩
         rw [Oper.semAt_eq _ _ _ nodef]
         obtain ⟨nx, val, w', β', Z', hrun, hnx, hl, hv⟩ := op_ok hE.tab hE.maps hs (Nat.zero_le _) (nm := st.nx) (hFr _ (Nat.le_refl _) (by omega)) hsub ht (o := o) (hp' := upd hp n (some b)) (v := .any) (by rw [hp0]; exact h.1) (by rw [hp0]; rfl)
         rw [hrun]
         have hl' : Left E 0 (fun n => Fr n ∧ ¬ (st.nx ≤ n ∧ n < st.nx + 4)) β Z hp w β' Z' (fun q => if st.nx ≤ q ∧ q < st.nx + 4 then upd st.hp n (some b) q else setO (some (n, some b)) hp q) w' :=
           Left.hp_eq ⟨hl.sat.weaken (fun n hn => ⟨hn.1, by omega⟩), hl.ev, hl.ext, hl.own, hl.zown⟩ (fun q => by
             split
             · rename_i hr; rw [upd_ne _ _ (by omega), upd_ne _ _ (by omega), hfree q hr.1]; exact (not_known hs (hs.fresh q (hFr q hr.1 hr.2))).symm
             · rfl)
         rcases hnx with rfl | ⟨rfl, rfl⟩
         · exact ⟨val, β', Z', rfl, hv, hl'⟩
         · exact ⟨undef, β', Z', rfl, hv, hl'⟩
       · exact h.elim
     | we c n b v =>
       simp only [vcSteady] at h
       split at h
       · rename_i hmay
         simp only [Bool.and_eq_true] at hmay
         have hlt : n < st.nx := Nat.le_of_ble_eq_true hmay.2
         rw [conj_iff] at h
         refine ⟨forget kn o.dst, v, upd st.hp n (some b), some (n, some b), forget_abs hk, h.2, fun q hq => rfl, fun q x hq => by injection hq with hq; injection hq with h1 h2; subst h1; exact ⟨hmay.1, hlt⟩, ?_⟩
         intro ro Fr β Z hp w a Q' hs hFr hFar hsub ht
         refine ⟨fun _ _ => trivial, ?_⟩
         rw [Oper.semAt_eq _ _ _ nodef]
         obtain ⟨nx, val, w', β', Z', hrun, hnx, hl, hv⟩ := op_ok hE.tab hE.maps hs (Nat.zero_le _) (nm := st.nx) (hFr _ (Nat.le_refl _) (by omega)) hsub ht (o := o) (hp' := upd hp n (some b)) (v := v) (by rw [hp0]; exact h.1) (by rw [hp0]; rfl)
         rw [hrun]
         have hl' : Left E 0 (fun n => Fr n ∧ ¬ (st.nx ≤ n ∧ n < st.nx + 4)) β Z hp w β' Z' (fun q => if st.nx ≤ q ∧ q < st.nx + 4 then upd st.hp n (some b) q else setO (some (n, some b)) hp q) w' :=
           Left.hp_eq ⟨hl.sat.weaken (fun n hn => ⟨hn.1, by omega⟩), hl.ev, hl.ext, hl.own, hl.zown⟩ (fun q => by
             split
             · rename_i hr; rw [upd_ne _ _ (by omega), upd_ne _ _ (by omega), hfree q hr.1]; exact (not_known hs (hs.fresh q (hFr q hr.1 hr.2))).symm
             · rfl)
         rcases hnx with rfl | ⟨rfl, rfl⟩
         · exact ⟨val, β', Z', rfl, hv, hl'⟩
         · exact ⟨undef, β', Z', rfl, hv, hl'⟩
       · exact h.elim
     | call f args =>
       simp only [vcSteady] at h
       split at h
       · rename_i s hsig
         split at h
         · rename_i pargs hpure
           obtain ⟨x, hq1, hq2, h⟩ := h
           have hq := And.intro hq1 hq2
           split at h
           · rename_i hle
             have hle' := hle
             simp only [Bool.and_eq_true] at hle'
             have hle4 := Nat.le_of_ble_eq_true hle'.1
             have main : (∀ (hp : Hp), (ownTVs args = [] ∧ hp = hp) ∨ (flatRVs (s.res x) = true ∧ AllP (flatOwns (s.res x)) ∧ hp = hp) ∨ hp = dropAll hp (ownTVs args)) → K (forget kn o.dst) (st.next o.dst (resAV (resTVs (s.res x) st.nx)) (resHp st.hp (s.res x) st.nx) (st.nx + 4) st.wl) →
                 ∃ kn' v hp' D, KnT kn' (st.next o.dst v hp' (st.nx + 4) (wlO D st.wl)).tm ∧ K kn' (st.next o.dst v hp' (st.nx + 4) (wlO D st.wl)) ∧ (∀ n, ¬ (st.nx ≤ n ∧ n < st.nx + 4) → hp' n = setO D st.hp n) ∧ (∀ n x, D = some (n, x) → may n = true ∧ n < st.nx) ∧ StepSem P E far (masH see st.hp) (masked st.tm (looks ops o)) st.nx o v hp' D := by
               intro hmode hK
               refine ⟨forget kn o.dst, _, _, none, forget_abs hk, hK, fun n hn => resHp_get (by omega), fun _ _ h => by simp at h, ?_⟩
               intro ro Fr β Z hp w a Q' hs hFr hFar hsub ht
               refine ⟨fun _ _ => trivial, ?_⟩
               rw [Oper.semAt_eq _ _ _ nodef]
               obtain ⟨c, fo, l, hop, hcal, hargs, hcase⟩ := plan_call (tm := masked st.tm (looks ops o)) (hp := masH see st.hp) (E := E) (o := o) (by rw [hp0]; exact fun h => h)
               have hl := args_ok hs.gl ht hargs
               have hfo := eval_ok hs.gl ht fo
               rcases hcase with ⟨g, sh, first, nc, cap, hev, hplan⟩ | ⟨n, hev, hplan⟩
               · rw [hp0] at hplan
                 injection hplan with e1 e2
                 subst e1
                 rw [hev] at hfo
                 obtain ⟨fs, cs, hv, q1, q2⟩ := fn_ok hfo
                 have hrl : RL β Z w args (fs.toList ++ c.args.toList.map a.eval ++ cs.toList) := by rw [e2]; exact (q1.append hl).append q2
                 have hrun : (execOp a.eval o).run P w = .ok (.enter f (fs.toList ++ c.args.toList.map a.eval ++ cs.toList).toArray) w := by
                   have hex : execOp a.eval o = (do let d ← resolve a.eval c o.type; invoke d.target d.args) := by simp [execOp, hop]
                   rw [hex]
                   have := run_enter (w := w) (args := (fs ++ c.args.map a.eval) ++ cs) (hE.runs f (.inr (by rw [hsig]; rfl)))
                   simp only [resolve, hcal, hv, Deferred.ofValue, Sem.run_bind, Sem.run_pure, Result.andThen_ok, invoke]
                   rw [this]
                   congr 2
                   apply Array.ext'
                   simp
                 rw [hrun]
                 refine ⟨fun hd => by simp [Fn, Fence.wide] at hd, ?_⟩
                 refine CallsIn.mono (sig_core hE hsig hq hs hFr hsub hpure hle hrl (base := hp) (hmode hp)) (R' := fun
                   | .returned v, w' => ∃ val β' Z', a.put o.dst v = a.put o.dst val ∧ RA β' Z' w' (resAV (resTVs (s.res x) st.nx)) val ∧ Left E 0 (fun n => Fr n ∧ ¬ (st.nx ≤ n ∧ n < st.nx + 4)) β Z hp w β' Z' (fun n => if st.nx ≤ n ∧ n < st.nx + 4 then resHp st.hp (s.res x) st.nx n else hp n) w'
                   | .panicked chain, w' => Q' (.panic chain) a w'
                   | .outgrown, _ => LetsOut Q') fun e w' ⟨val, β', Z', he, hL, hV⟩ => by
                     subst he
                     refine ⟨val, β', Z', rfl, hV, hL.hp_eq (fun n => ?_)⟩
                     by_cases hr : st.nx ≤ n ∧ n < st.nx + 4
                     · rw [if_pos hr]
                       by_cases hr2 : n < st.nx + ownCount (s.res x)
                       · obtain ⟨e, size, len, get, k1, k2, _⟩ := resHp_own (base := hp) (rs := s.res x) (m := st.nx) (i := n - st.nx) (by omega)
                         rw [show st.nx + (n - st.nx) = n by omega] at k1
                         have k2' := k2 st.hp st.nx
                         rw [show st.nx + (n - st.nx) = n by omega] at k2'
                         rw [k1, k2']
                       · rw [resHp_get (by omega), resHp_get (by omega), hfree n hr.1]
                         exact (not_known hs (hs.fresh n (hFr n hr.1 hr.2))).symm
                     · rw [if_neg hr, resHp_get (by omega)]
               · rw [hp0] at hplan; simp at hplan
             split at h
             · rename_i hemp
               exact main (fun hp => .inl ⟨by simpa [List.isEmpty_iff] using hemp, rfl⟩) h
             · split at h
               · rename_i hfl
                 rw [conj_iff] at h
                 exact main (fun hp => .inr (.inl ⟨hfl, h.1, rfl⟩)) h.2
               · exact h.elim
           · exact h.elim
         · exact h.elim
       · split at h
         · rename_i R hpeek
           obtain ⟨hfn, g, hin, hK⟩ := h
           refine ⟨forget kn o.dst, resAV (R.res g), st.hp, none, forget_abs hk, hK, fun _ _ => rfl, fun _ _ h => by simp at h, ?_⟩
           intro ro Fr β Z hp w a Q' hs hFr hFar hsub ht
           refine ⟨fun _ _ => trivial, ?_⟩
           rw [Oper.semAt_eq _ _ _ nodef]
           obtain ⟨c, fo, l, hop, hcal, hargs, hcase⟩ := plan_call (tm := masked st.tm (looks ops o)) (hp := masH see st.hp) (E := E) (o := o) (by rw [hp0]; exact fun h => h)
           have hl := args_ok hs.gl ht hargs
           have hfo := eval_ok hs.gl ht fo
           rcases hcase with ⟨g', sh, first, nc, cap, hev, hplan⟩ | ⟨n, hev, hplan⟩
           · rw [hp0] at hplan
             injection hplan with e1 e2
             subst e1
             rw [hev] at hfo
             obtain ⟨fs, cs, hv', q1, q2⟩ := fn_ok hfo
             have hrl : RL β Z w args (fs.toList ++ c.args.toList.map a.eval ++ cs.toList) := by rw [e2]; exact (q1.append hl).append q2
             have hrun : (execOp a.eval o).run P w = .ok (.enter f (fs.toList ++ c.args.toList.map a.eval ++ cs.toList).toArray) w := by
               have hex : execOp a.eval o = (do let d ← resolve a.eval c o.type; invoke d.target d.args) := by simp [execOp, hop]
               rw [hex]
               have := run_enter (w := w) (args := (fs ++ c.args.map a.eval) ++ cs) (hE.runs f (.inl hfn))
               simp only [resolve, hcal, hv', Deferred.ofValue, Sem.run_bind, Sem.run_pure, Result.andThen_ok, invoke]
               rw [this]
               congr 2
               apply Array.ext'
               simp
             rw [hrun]
             refine ⟨fun hd => by simp [Fn, Fence.wide] at hd, ?_⟩
             refine CallsIn.mono (peek_core hI hin hs hFar hsub hfree hrl) (R' := fun
               | .returned u, w' => ∃ val β' Z', a.put o.dst u = a.put o.dst val ∧ RA β' Z' w' (resAV (R.res g)) val ∧ Left E 0 (fun n => Fr n ∧ ¬ (st.nx ≤ n ∧ n < st.nx + 4)) β Z hp w β' Z' (fun n => if st.nx ≤ n ∧ n < st.nx + 4 then st.hp n else setO none hp n) w'
               | .panicked chain, w' => Q' (.panic chain) a w'
               | .outgrown, _ => LetsOut Q') fun e w' ⟨val, Z', he, hV, hL⟩ => by
                 subst he
                 refine ⟨val, β, Z', rfl, hV, Left.hp_eq ⟨hL.sat.weaken (fun n hn => hn.1), hL.ev, hL.ext, hL.own, hL.zown⟩ (fun n => ?_)⟩
                 split
                 · rename_i hr; rw [hfree n hr.1]; exact (not_known hs (hs.fresh n (hFr n hr.1 hr.2))).symm
                 · rfl
           · rw [hp0] at hplan; simp at hplan
         split at h
         · rename_i R _ _ heven
           obtain ⟨hfn, hpre⟩ := h
           obtain ⟨g, _, _⟩ := id hpre
           have hstep : ∃ v, K (forget kn o.dst) (st.next o.dst v st.hp (st.nx + 4) st.wl) ∧ StepSem P E far (masH see st.hp) (masked st.tm (looks ops o)) st.nx o v st.hp none := by
             obtain ⟨v, hv⟩ := evenPre_val hpre
             refine ⟨v, hv.2, ?_⟩
             intro ro Fr β Z hp w a Q' hs hFr hFar hsub ht
             refine ⟨fun _ _ => trivial, ?_⟩
             rw [Oper.semAt_eq _ _ _ nodef]
             obtain ⟨c, fo, l, hop, hcal, hargs, hcase⟩ := plan_call (tm := masked st.tm (looks ops o)) (hp := masH see st.hp) (E := E) (o := o) (by rw [hp0]; exact fun h => h)
             have hl := args_ok hs.gl ht hargs
             have hfo := eval_ok hs.gl ht fo
             rcases hcase with ⟨g, sh, first, nc, cap, hev, hplan⟩ | ⟨n, hev, hplan⟩
             · rw [hp0] at hplan
               injection hplan with e1 e2
               subst e1
               rw [hev] at hfo
               obtain ⟨fs, cs, hv', q1, q2⟩ := fn_ok hfo
               have hrl : RL β Z w args (fs.toList ++ c.args.toList.map a.eval ++ cs.toList) := by rw [e2]; exact (q1.append hl).append q2
               have hrun : (execOp a.eval o).run P w = .ok (.enter f (fs.toList ++ c.args.toList.map a.eval ++ cs.toList).toArray) w := by
                 have hex : execOp a.eval o = (do let d ← resolve a.eval c o.type; invoke d.target d.args) := by simp [execOp, hop]
                 rw [hex]
                 have := run_enter (w := w) (args := (fs ++ c.args.map a.eval) ++ cs) (hE.runs f (.inl hfn))
                 simp only [resolve, hcal, hv', Deferred.ofValue, Sem.run_bind, Sem.run_pure, Result.andThen_ok, invoke]
                 rw [this]
                 congr 2
                 apply Array.ext'
                 simp
               rw [hrun]
               refine ⟨fun hd => by simp [Fn, Fence.wide] at hd, ?_⟩
               refine CallsIn.mono (even_core (fun g hg => hE.even f R g heven hg) (hv.1) hs hsub hrl) (R' := fun
                 | .returned u, w' => ∃ val β' Z', a.put o.dst u = a.put o.dst val ∧ RA β' Z' w' v val ∧ Left E 0 (fun n => Fr n ∧ ¬ (st.nx ≤ n ∧ n < st.nx + 4)) β Z hp w β' Z' (fun n => if st.nx ≤ n ∧ n < st.nx + 4 then st.hp n else setO none hp n) w'
                 | .panicked chain, w' => Q' (.panic chain) a w'
                 | .outgrown, _ => LetsOut Q') fun e w' ⟨val, v', Z', he, hkv, hV, hL⟩ => by
                   subst he
                   have hkv : v' = v := hkv
                   subst hkv
                   refine ⟨val, β, Z', rfl, hV, Left.hp_eq ⟨hL.sat.weaken (fun n hn => hn.1), hL.ev, hL.ext, hL.own, hL.zown⟩ (fun n => ?_)⟩
                   split
                   · rename_i hr; rw [hfree n hr.1]; exact (not_known hs (hs.fresh n (hFr n hr.1 hr.2))).symm
                   · rfl
             · rw [hp0] at hplan; simp at hplan
           obtain ⟨v, hv1, hv2⟩ := hstep
           exact ⟨forget kn o.dst, v, st.hp, none, forget_abs hk, hv1, fun _ _ => rfl, fun _ _ h => by simp at h, hv2⟩
         · exact h.elim
 · exact h.elim
end
end Go.Sx
