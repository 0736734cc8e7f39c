/- The framework Sx, part 13c: a region that draws its order; all together. -/
import Derived.Test.YthcplmlkgaiggaaSxDraw2
import Derived.Test.YthcplmlkgaiggaaSxAll
set_option linter.unusedSimpArgs false
set_option linter.unusedVariables false
namespace Go.Sx
section
variable {P : Program} {E : Env} {inl : CallVC} {yld : YieldVC} {ops : Array Oper} {bs : List Nat}

theorem exists_least {p : Nat → Prop} : ∀ (k : Nat), p k → ∃ j, j ≤ k ∧ p j ∧ ∀ i, i < j → ¬ p i := by
  intro k
  induction k using Nat.strongRecOn with
  | _ k ih =>
    intro hk
    by_cases h : ∃ i, i < k ∧ p i
    · obtain ⟨i, hi, hp⟩ := h
      obtain ⟨j, h1, h2, h3⟩ := ih i hi hp
      exact ⟨j, by omega, h2, h3⟩
    · exact ⟨k, Nat.le_refl _, hk, fun i hi hp => h ⟨i, hi, hp⟩⟩

theorem ready_ex (hsd : sound ops.toList bs = true) {listed : Array Bool} (hsz : listed.size = ops.size) {k : Nat} (hk : k < ops.size) (hun : listed.getD k false = false) : ∃ i, i ≤ k ∧ i ∈ Region.ready .any ops listed := by
  obtain ⟨i, h1, h2, h3⟩ := exists_least (p := fun k => listed.getD k false = false) k hun
  have ho : ops[i]? = some ops[i] := by simp
  refine ⟨i, h1, ready_iff.2 ⟨ops[i], ho, getD_ft (by omega) h2, fun e he hb => ?_⟩⟩
  have hlt := (sound_ok hsd (i := i) (o := ops[i]) (by simp)).2.1 e he hb
  have := h3 e.on hlt
  simpa using this

section
variable {s b : Nat} {sts : Nat → St} {runs : Nat → Bool} {vs : Nat → AV} {ds : Nat → Option (Nat × Option Blk)} {β0 : Nat → Loc} {Z0 : Nat → Prop} {a0 : Act} {w0 : World}

theorem stretch_run (hst : Stretch P E ops.toList bs s b sts runs vs ds) (hssa : ssa ops.toList bs = true) (hsd : sound ops.toList bs = true) (h0 : Sat E (sts s) β0 Z0 a0 w0) (hbar : b = ops.size ∨ isBar bs b = true) {ro : Option Nat} {Q : Exit → Act → World → Prop}
    (hEnd : ∀ (fuel : Nat) (listed : Array Bool) (a : Act) (w : World) (β : Nat → Loc) (Z : Nat → Prop), Mid E ops.toList bs s b sts vs ds β0 Z0 a0 w0 listed a w β Z → (∀ k, k < b → listed.getD k false = true) → unl listed ops.size ≤ fuel → wpAnyIn (Fn ro) 0 P .any ops Q fuel listed a w) :
    ∀ (fuel : Nat) (listed : Array Bool) (a : Act) (w : World) (β : Nat → Loc) (Z : Nat → Prop), Mid E ops.toList bs s b sts vs ds β0 Z0 a0 w0 listed a w β Z → unl listed ops.size ≤ fuel → wpAnyIn (Fn ro) 0 P .any ops Q fuel listed a w := by
  intro fuel
  induction fuel with
  | zero =>
    intro listed a w β Z hm hu
    have hsz : listed.size = ops.size := by rw [hm.size]; simp
    have hb : b ≤ ops.size := by simpa using hst.len
    exact hEnd 0 listed a w β Z hm (fun k hk => getD_tt (by omega) (unl_zero (k := ops.size) (by omega) k (by omega))) hu
  | succ fuel ih =>
    intro listed a w β Z hm hu
    have hsz : listed.size = ops.size := by rw [hm.size]; simp
    have hb : b ≤ ops.size := by simpa using hst.len
    by_cases hall : ∀ k, k < b → listed.getD k false = true
    · exact hEnd _ listed a w β Z hm hall hu
    · refine ⟨fun hnil => ?_, fun i hi => ?_⟩
      · exfalso
        apply hall
        intro k hk
        cases h : listed.getD k false with
        | true => rfl
        | false =>
          obtain ⟨i, _, hi⟩ := ready_ex hsd hsz (by omega : k < ops.size) h
          rw [hnil] at hi; simp at hi
      · obtain ⟨o, ho, hun, hrd⟩ := ready_iff.1 hi
        obtain ⟨hunF, hilt⟩ := getD_tf hun
        have hin : i < ops.size := by omega
        have hoL : ops.toList[i]? = some o := by simpa using ho
        obtain ⟨sd1, _, sd3⟩ := sound_ok hsd hoL
        have before : ∀ k, (bs.getD i 0).testBit k = true → listed.getD k false = true := fun k hk => by
          obtain ⟨e, he, hbd, h⟩ := sd3 k (sd1 k hk) hk
          rcases h with rfl | h
          · exact hrd e he hbd
          · exact hm.closed e.on (hrd e he hbd) k h
        have hlen : bs.length = ops.size := by
          simp only [sound, Bool.and_eq_true] at hsd
          rw [Nat.eq_of_beq_eq_true hsd.1]; simp
        have his : s ≤ i := by
          apply Nat.le_of_not_lt; intro h
          rw [hm.lo i h] at hunF; simp at hunF
        have hib : i < b := by
          apply Nat.lt_of_not_le
          intro hle
          rcases hbar with hbar | hbar
          · omega
          · obtain ⟨b1, b2⟩ := bar_ok hbar
            by_cases e : i = b
            · subst e
              exact hall fun k hk => before k (b1 k hk)
            · have := before b (b2 i (by omega) (by omega))
              rw [hm.hi b (Nat.le_refl _)] at this; simp at this
        refine mid_step hst hssa hsd h0 hm his hib ho hun hrd fun a' w' β' Z' hm' => ih _ a' w' β' Z' hm' ?_
        have := unl_set (l := listed) (i := i) hilt hun ops.size
        rw [if_pos hin] at this
        omega
end

/-- What is known stays so. -/
theorem knT_keep {kn : Nat → Option Bool} {tm : Nat → AV} (h : KnT kn tm) : KnT (knKeep E kn) tm := by
  unfold knKeep
  cases E.keep with
  | true => exact h
  | false => exact fun d t hd => by simp at hd

theorem knT_next {kn : Nat → Option Bool} {st : St} (h : KnT kn st.tm) (dst : Option Nat) (v : AV) (hp : Hp) (nx : Nat) (wl : List Nat) : KnT (forget kn dst) (st.next dst v hp nx wl).tm := by
  intro d t hd
  cases dst with
  | none => exact h d t hd
  | some e =>
    simp only [forget, St.next] at hd ⊢
    by_cases c : d = e
    · subst c; rw [upd_same] at hd; cases hd
    · rw [upd_ne _ _ c] at hd ⊢; exact h d t hd

theorem step_next {dst : Option Nat} {p : Plan} {st : St} {K Q : St → Prop} (hQ : ∀ v hp nx wl, Q (st.next dst v hp nx wl)) (h : vcStep E inl yld dst p st K) : vcStep E inl yld dst p st (fun st' => K st' ∧ Q st') := by
  have e : ∀ v hp nx wl, (K (st.next dst v hp nx wl) ∧ Q (st.next dst v hp nx wl)) = K (st.next dst v hp nx wl) := fun v hp nx wl => propext ⟨And.left, fun h => ⟨h, hQ v hp nx wl⟩⟩
  unfold vcStep at h ⊢
  simp only [e]
  exact h

theorem split_mono {kn : Nat → Option Bool} {d : Nat} {x : AV} {K K' : (Nat → Option Bool) → Bool → Prop} {tm : Nat → AV} (hx : x = tm d) (hk : KnT kn tm) (hm : ∀ kn' t, KnT kn' tm → K kn' t → K' kn' t) (h : split kn d x K) : split kn d x K' := by
  have up : ∀ t, truth (tm d) = some t → KnT (upd kn d (some t)) tm := fun t ht e b he => by
    by_cases c : e = d
    · subst c; rw [upd_same] at he; injection he with he; subst he; exact ht
    · rw [upd_ne _ _ c] at he; exact hk e b he
  unfold split at h ⊢
  split at h
  · exact hm _ _ hk h
  · split at h
    · exact hm _ _ hk h
    · exact hm _ _ hk h
    · rename_i b
      refine ⟨fun hb => hm _ _ (up true ?_) (h.1 hb), fun hb => hm _ _ (up false ?_) (h.2 hb)⟩
      · rw [← hx, hb]; rfl
      · rw [← hx, hb]; rfl
    · exact h.elim

theorem knT_frz {kn : Nat → Option Bool} {l : List Nat} : ∀ {st : St}, KnT kn st.tm → KnT kn (frzAll l st).tm := by
  induction l with
  | nil => intro st h; exact h
  | cons t l ih =>
    intro st h
    refine ih (st := frzOne t st) fun d b hb => ?_
    have h0 := h d b hb
    unfold frzOne
    split
    · rename_i n sz ln htm
      split
      · split
        · show truth (upd st.tm t _ d) = some b
          by_cases e : d = t
          · subst e; rw [htm] at h0; cases h0
          · rw [upd_ne _ _ e]; exact h0
        · exact h0
      · exact h0
    · exact h0

theorem one_kn {kn : Nat → Option Bool} {o : Oper} {st : St} {K : (Nat → Option Bool) → St → Prop} (h : vcOne E inl yld kn o st K) (hk : KnT kn st.tm) : vcOne E inl yld kn o st (fun kn' st' => K kn' st' ∧ KnT kn' st'.tm) := by
  unfold vcOne at h ⊢
  cases hh : st.has o.dst with
  | false => rw [hh] at h; exact h.elim
  | true =>
    rw [hh] at h
    simp only at h ⊢
    split at h
    · rename_i c x y hop
      exact split_mono rfl hk (fun kn' t hk' hK => ⟨hK, knT_next hk' _ _ _ _ _⟩) h
    · exact step_next (Q := fun st' => KnT (forget kn o.dst) st'.tm) (fun v hp nx wl => knT_next (knT_frz hk) _ _ _ _ _) h
    · exact step_next (Q := fun st' => KnT (forget kn o.dst) st'.tm) (fun v hp nx wl => knT_next hk _ _ _ _ _) h

theorem draw_go (hE : EnvOk P E) (hI : InlOk P E inl) (hIf : InlFn E inl) (hY : YldOk P E yld) (hssa : ssa ops.toList bs = true) (hsd : sound ops.toList bs = true) {K : St → Prop} {ro : Option Nat} {Q : Exit → Act → World → Prop} {x0 : HS} {sz : Nat} {a0 : Act}
    (hK : ∀ st' β' Z' a' w', K st' → Sat E st' β' Z' a' w' → Turn x0 (HS.of st' β' Z' w') → st'.sz = sz → (∀ t, (∀ o ∈ ops.toList, o.dst ≠ some t) → a'.tmps.getD t undef = a0.tmps.getD t undef) → a'.defers = a0.defers → Q .normal a' w') :
    ∀ (m s : Nat), s ≤ ops.size → ops.size - s ≤ m → ∀ (kn : Nat → Option Bool) (st : St) (β : Nat → Loc) (Z : Nat → Prop) (a : Act) (w : World) (listed : Array Bool) (fuel : Nat), vcDraw E inl yld ops.toList bs (ops.toList.drop s) s st.nx s kn st K → KnT kn st.tm → Sat E st β Z a w →
      Turn x0 (HS.of st β Z w) → st.sz = sz → (∀ t, (∀ o ∈ ops.toList, o.dst ≠ some t) → a.tmps.getD t undef = a0.tmps.getD t undef) → a.defers = a0.defers → listed.size = ops.size → (∀ k, k < s → listed.getD k false = true) → (∀ k, s ≤ k → listed.getD k false = false) →
      unl listed ops.size ≤ fuel → wpAnyIn (Fn ro) 0 P .any ops Q fuel listed a w := by
  intro m
  induction m with
  | zero =>
    intro s hs hsm kn st β Z a w listed fuel h hkn hsat ht hsz hkeep hdef hls hlo hhi hfu
    have : s = ops.size := by omega
    have hd : ops.toList.drop s = [] := by simp; omega
    rw [hd] at h
    have hQ := hK st β Z a w h hsat ht hsz hkeep hdef
    refine wpAnyIn_done ?_ hQ fuel
    cases hr : Region.ready .any ops listed with
    | nil => rfl
    | cons i l =>
      obtain ⟨o, ho, hun, _⟩ := ready_iff.1 (by rw [hr]; simp : i ∈ Region.ready .any ops listed)
      obtain ⟨h1, h2⟩ := getD_tf hun
      rw [hlo i (by omega)] at h1; simp at h1
  | succ m ih =>
    intro s hs hsm kn st β Z a w listed fuel h hkn hsat ht hsz hkeep hdef hls hlo hhi hfu
    have free : ∀ n, st.nx ≤ n → st.hp n = none := fun n hn => not_known hsat.heap (hsat.heap.fresh n hn)
    obtain ⟨b, sts, runs, vs, ds, q1, q2, q3, q4, q5, q6⟩ := extract (P := P) hE _ s rfl (by simpa using hs) kn st h hkn free
    subst q3
    have hst : Stretch P E ops.toList bs s b sts runs vs ds := ⟨q1, q2, q4, q5⟩
    have hb : b ≤ ops.size := by simpa using q2
    have hcl : ∀ k, listed.getD k false = true → ∀ j, (bs.getD k 0).testBit j = true → listed.getD j false = true := fun k hk j hj => by
      have hks : k < s := by
        apply Nat.lt_of_not_le; intro hle
        rw [hhi k hle] at hk; simp at hk
      have hko : ops.toList[k]? = some ops[k] := by simp
      have := (sound_ok hsd hko).1 j hj
      exact hlo j (by omega)
    have hmid := mid_start hst hsat (by simpa using hls) hlo hhi hcl
    refine stretch_run hst hssa hsd hsat (q6.elim (fun h => .inl (by simpa using h.1)) (fun ⟨_, _, h, _⟩ => .inr h)) (fun fuel listed' a' w' β' Z' hm hall hfu' => ?_) fuel listed a w β Z hmid hfu
    obtain ⟨e1, e2, e3⟩ := mid_end hst hssa hsat hm hall
    have hszb := (hst.nx (k := b) q1 (Nat.le_refl _)).2.2
    have T := ht.trans e2
    have hls' : listed'.size = ops.size := by rw [hm.size]; simp
    have keep' : ∀ t, (∀ o ∈ ops.toList, o.dst ≠ some t) → a'.tmps.getD t undef = a0.tmps.getD t undef := fun t h => (e3 t h).trans (hkeep t h)
    have def' : a'.defers = a0.defers := hm.df.trans hdef
    rcases q6 with ⟨hbn, hk⟩ | ⟨o, ho, hbar, kn1, hkn1, hvc⟩
    · have hQ := hK (sts b) β' Z' a' w' hk e1 T (hszb.trans hsz) keep' def'
      refine wpAnyIn_done ?_ hQ fuel
      cases hr : Region.ready .any ops listed' with
      | nil => rfl
      | cons i l =>
        obtain ⟨o, ho, hun, _⟩ := ready_iff.1 (by rw [hr]; simp : i ∈ Region.ready .any ops listed')
        obtain ⟨h1, h2⟩ := getD_tf hun
        have hbn' : b = ops.size := by simpa using hbn
        rw [hall i (by omega)] at h1; simp at h1
    · have hblt : b < ops.size := by
        have := (List.getElem?_eq_some_iff.1 ho).1
        simpa using this
      have hunb : listed'.getD b false = false := hm.hi b (Nat.le_refl _)
      have hob : ops[b]? = some o := by simpa using ho
      have hdrop : ops.toList.drop b = o :: ops.toList.drop (b + 1) := by
        rw [List.drop_eq_getElem_cons (by simpa using hblt)]
        congr 1
        have := (List.getElem?_eq_some_iff.1 ho).2
        exact this
      have hub : unl (listed'.setIfInBounds b true) ops.size + 1 = unl listed' ops.size := by
        have := unl_set (l := listed') (i := b) (by omega) (getD_ft (by omega) hunb) ops.size
        rw [if_pos hblt] at this
        exact this
      cases fuel with
      | zero => omega
      | succ fuel =>
        refine ⟨fun hnil => ?_, fun i hi => ?_⟩
        · obtain ⟨i, _, hi⟩ := ready_ex hsd hls' hblt hunb
          rw [hnil] at hi; simp at hi
        · obtain ⟨oi, hoi, hun, hrd⟩ := ready_iff.1 hi
          obtain ⟨hunF, hilt⟩ := getD_tf hun
          have hib : i = b := by
            by_cases e1' : i < b
            · rw [hall i e1'] at hunF; simp at hunF
            · by_cases e2' : i = b
              · exact e2'
              · exfalso
                have hlen : bs.length = ops.size := by
                  simp only [sound, Bool.and_eq_true] at hsd
                  rw [Nat.eq_of_beq_eq_true hsd.1]; simp
                have hbit := (bar_ok hbar).2 i (by omega) (by omega)
                have hoL : ops.toList[i]? = some oi := by simpa using hoi
                obtain ⟨sd1, _, sd3⟩ := sound_ok hsd hoL
                have : listed'.getD b false = true := by
                  obtain ⟨ed, he, hbd, h⟩ := sd3 b (sd1 b hbit) hbit
                  rcases h with h | h
                  · rw [← h]; exact hrd ed he hbd
                  · exact hm.closed ed.on (hrd ed he hbd) b h
                rw [hunb] at this; simp at this
          subst hib
          rw [hob] at hoi; injection hoi with hoi; subst hoi
          have lo' : ∀ k, k < i + 1 → (listed'.setIfInBounds i true).getD k false = true := fun k hk => by
            rw [getD_set' (by omega)]
            by_cases e : k = i
            · rw [if_pos e]
            · rw [if_neg e]; exact hall k (by omega)
          have hi' : ∀ k, i + 1 ≤ k → (listed'.setIfInBounds i true).getD k false = false := fun k hk => by
            rw [getD_set' (by omega), if_neg (by omega)]; exact hm.hi k (by omega)
          rw [hdrop] at hvc
          simp only [vcDraw] at hvc
          obtain ⟨kn2, run, h1, h2, h3⟩ := guard_abs hvc hkn1
          have hmem : o ∈ ops.toList := List.mem_of_getElem? ho
          have hwant : Region.wanted o (yielded ops a'.tmps) = run := by
            rcases h3 with ⟨hg, hr⟩ | ⟨j, want, d, t, hg, hd, htt, hr⟩ | ⟨j, want, d, hg, hd, htt, hr⟩
            · rw [hr]; simp [Region.wanted, hg]
            · rw [hr]; exact wanted_of hg hd (truth_ok (e1.tm d) htt)
            · have hb := e1.tm d
              rw [htt] at hb
              rw [hr]; exact wanted_skip hg hd (ra_skip_eq hb)
          rw [hbar] at h1
          simp only at h1
          unfold wpOpIn
          rw [hob]
          simp only [hwant]
          cases run with
          | true =>
            rw [if_pos rfl]
            have hko : KnOk kn2 a' := fun d t hd => truth_ok (e1.tm d) (h2 d t hd)
            refine Oper.wpIn_mono (fun a2 w2 hp => ?_) (one_sound hE hI hIf hY (one_kn h1 h2) e1 hko)
            obtain ⟨_, _, st2, β2, Z2, ⟨r1, r1k⟩, r2, r3, r4, r5, r6⟩ := hp
            exact ih (i + 1) (by omega) (by omega) _ st2 β2 Z2 a2 w2 _ fuel r1 (knT_keep r1k) r2 (T.trans r3) (r4.trans (hszb.trans hsz)) (fun t h => (r5 t (h o hmem)).trans (keep' t h)) (r6.trans def') (by simp [hls']) lo' hi' (by omega)
          | false =>
            rw [if_neg (by simp)]
            simp only at h1
            split at h1
            · rename_i hh
              obtain ⟨s1, s2⟩ := skip_ok e1 hh
              refine ⟨fun _ _ => trivial, ih (i + 1) (by omega) (by omega) _ _ β' Z' _ w' _ fuel h1 (knT_keep (knT_next h2 _ _ _ _ _)) s1 (T.trans s2) (hszb.trans hsz) (fun t h => ?_) ?_ (by simp [hls']) lo' hi' (by omega)⟩
              · rw [getD_put, if_neg (fun hh => h o hmem hh.1)]; exact keep' t h
              · rw [← def']; cases o.dst <;> rfl
            · exact h1.elim

theorem unl_all : ∀ (n k : Nat), k ≤ n → unl (Array.replicate n false) k = k
  | n, 0, _ => rfl
  | n, k + 1, h => by
    simp only [unl, unl_all n k (by omega)]
    rw [if_neg]
    simp [Array.getD]; omega

theorem draw_ok1 (hE : EnvOk P E) (hI : InlOk P E inl) (hIf : InlFn E inl) (hY : YldOk P E yld) (id : Nat) (ops : Array Oper) (bs : List Nat) (ho : orderly ops.toList bs = true) :
    CodeOk P E (.region id ops true) (fun st Q => vcDraw E inl yld ops.toList bs ops.toList 0 st.nx 0 (fun _ => none) st (Q .normal)) := by
  intro st Q h ro B0 β Z a w hs hm hro
  simp only [orderly, Bool.and_eq_true] at ho
  obtain ⟨hssa, hsd⟩ := ho
  refine wpIn_region_draw fun t => ?_
  simp only [Region.schedule, hE.mix, Bool.true_or, if_true]
  refine wpAnyIn_sound ops.size t _ a _ ?_
  have evD : Evo (Own β st.hp) Z w Z { w with drawn := w.drawn + 1 } := ⟨rfl, rfl, rfl, Nat.le_refl _, fun _ _ _ => rfl, fun _ cs _ h => ⟨cs, h, rfl⟩, fun _ r h => ⟨r, h, rfl, rfl, rfl, rfl, rfl, rfl⟩, fun _ h => h⟩
  have hsD : SatH E 0 (fun n => st.nx ≤ n) β Z st.hp { w with drawn := w.drawn + 1 } :=
    hs.heap.step evD (Ext.refl β) (fun n blk hn => .inl ⟨hn, fun b ln hb => ⟨rfl, (hs.heap.own n blk b ln hn hb).2.1⟩⟩) hs.heap.inj hs.heap.zlt hs.heap.fresh
  have hS : Sat E st β Z a { w with drawn := w.drawn + 1 } := ⟨hsD, fun t => RA.mono evD hs.heap.calm (Ext.refl _) (hs.tm t), hs.sz⟩
  have hT : Turn (HS.of st β Z w) (HS.of st β Z { w with drawn := w.drawn + 1 }) := ⟨evD, Ext.refl _, fun _ h => .inl h, fun _ h => .inl h, Nat.le_refl _, fun _ h => h, fun _ _ _ => rfl⟩
  have hkeepW : ∀ t, writes (.region id ops true) t = false → ∀ o ∈ ops.toList, o.dst ≠ some t := fun t hw o ho e => by
    simp only [writes, List.any_eq_false] at hw
    have := hw o ho
    rw [e] at this
    simp at this
  have hfalse : ∀ k, (Array.replicate ops.size false).getD k false = false := fun k => by
    by_cases hk : k < ops.size <;> simp [Array.getD, hk]
  exact draw_go hE hI hIf hY hssa hsd (x0 := HS.of st β Z w) (sz := st.sz) (a0 := a) (K := Q .normal) (fun st' β' Z' a' w' hk hs' ht hsz hkeep hdef => ⟨st', β', Z', hk, hs', ht, hsz, fun t hw => hkeep t (hkeepW t hw), by rw [hdef]; exact hm.turn ht⟩)
    ops.size 0 (Nat.zero_le _) (by omega) (fun _ => none) st β Z a _ _ ops.size h (fun d t h => by simp at h) hS hT rfl (fun _ _ => rfl) rfl (by simp) (fun k hk => by omega) (fun k _ => hfalse k) (by rw [unl_all _ _ (Nat.le_refl _)]; exact Nat.le_refl _)

theorem readyL_iff {ops : Array Oper} {listed : Array Bool} {m : Nat} (hsz : listed.size = ops.size) (hm : ∀ k, listed.getD k false = m.testBit k) {i : Nat} : i ∈ Region.ready .any ops listed ↔ i ∈ readyL ops.toList m := by
  rw [ready_iff]
  simp only [readyL, List.mem_filter, List.mem_range, Bool.and_eq_true, Bool.not_eq_true']
  constructor
  · rintro ⟨o, ho, h1, h2⟩
    have hlt : i < ops.size := (Array.getElem?_eq_some_iff.1 ho).1
    have hoL : ops.toList[i]? = some o := by simpa using ho
    refine ⟨by simpa using hlt, ?_, ?_⟩
    · rw [← hm]; exact (getD_tf h1).1
    · rw [hoL]
      simp only [List.all_eq_true, Bool.or_eq_true, Bool.not_eq_true']
      intro e he
      cases hb : Region.binds .any e with
      | false => exact .inl rfl
      | true => exact .inr (by rw [← hm]; exact h2 e (by simpa using he) hb)
  · rintro ⟨h0, h1, h2⟩
    have hlt : i < ops.size := by simpa using h0
    have ho : ops[i]? = some ops[i] := by simp [hlt]
    have hoL : ops.toList[i]? = some ops[i] := by simp [hlt]
    rw [hoL] at h2
    simp only [List.all_eq_true, Bool.or_eq_true, Bool.not_eq_true'] at h2
    refine ⟨ops[i], ho, getD_ft (by omega) (by rw [hm]; exact h1), fun e he hb => ?_⟩
    rcases h2 e (by simpa using he) with h3 | h3
    · rw [hb] at h3; cases h3
    · rw [hm]; exact h3

theorem allOf_mem {p : Nat → Prop} : ∀ {l : List Nat}, allOf p l → ∀ i ∈ l, p i
  | [], _, i, h => by cases h
  | a :: l, h, i, hi => by
    rcases List.mem_cons.1 hi with rfl | hi
    · exact h.1
    · exact allOf_mem h.2 i hi

theorem any_go (hE : EnvOk P E) (hI : InlOk P E inl) (hIf : InlFn E inl) (hY : YldOk P E yld) {K : St → Prop} {ro : Option Nat} {Q : Exit → Act → World → Prop} {x0 : HS} {sz : Nat} {a0 : Act}
    (hK : ∀ st' β' Z' a' w', K st' → Sat E st' β' Z' a' w' → Turn x0 (HS.of st' β' Z' w') → st'.sz = sz → (∀ t, (∀ o ∈ ops.toList, o.dst ≠ some t) → a'.tmps.getD t undef = a0.tmps.getD t undef) → a'.defers = a0.defers → Q .normal a' w') :
    ∀ (fuel m : Nat) (st : St) (β : Nat → Loc) (Z : Nat → Prop) (a : Act) (w : World) (listed : Array Bool), vcAny E inl yld ops.toList fuel m st K → Sat E st β Z a w →
      Turn x0 (HS.of st β Z w) → st.sz = sz → (∀ t, (∀ o ∈ ops.toList, o.dst ≠ some t) → a.tmps.getD t undef = a0.tmps.getD t undef) → a.defers = a0.defers → listed.size = ops.size → (∀ k, listed.getD k false = m.testBit k) →
      wpAnyIn (Fn ro) 0 P .any ops Q fuel listed a w := by
  intro fuel
  induction fuel with
  | zero =>
    intro m st β Z a w listed h hs ht hsz hkeep hdef hls hm
    simp only [vcAny] at h
    split at h
    · rename_i hr
      refine ⟨?_, hK st β Z a w h hs ht hsz hkeep hdef⟩
      cases hrd : Region.ready .any ops listed with
      | nil => rfl
      | cons i l =>
        have : i ∈ readyL ops.toList m := (readyL_iff hls hm).1 (by rw [hrd]; simp)
        rw [hr] at this; cases this
    · exact h.elim
  | succ fuel ih =>
    intro m st β Z a w listed h hs ht hsz hkeep hdef hls hm
    simp only [vcAny] at h
    split at h
    · rename_i hr
      refine ⟨fun _ => hK st β Z a w h hs ht hsz hkeep hdef, fun i hi => ?_⟩
      have : i ∈ readyL ops.toList m := (readyL_iff hls hm).1 hi
      rw [hr] at this; cases this
    · rename_i i0 l0 hr
      refine ⟨fun hnil => ?_, fun i hi => ?_⟩
      · have : i0 ∈ Region.ready .any ops listed := (readyL_iff hls hm).2 (by rw [hr]; simp)
        rw [hnil] at this; cases this
      · have hiL : i ∈ readyL ops.toList m := (readyL_iff hls hm).1 hi
        have h1 := allOf_mem h i (by rw [← hr]; exact hiL)
        obtain ⟨o, ho, hun, _⟩ := ready_iff.1 hi
        have hoL : ops.toList[i]? = some o := by simpa using ho
        have hilt : i < listed.size := (getD_tf hun).2
        simp only [hoL] at h1
        have hmem : o ∈ ops.toList := List.mem_of_getElem? hoL
        have hm' : ∀ k, (listed.setIfInBounds i true).getD k false = (m ||| 2 ^ i).testBit k := fun k => by
          rw [getD_set' hilt, Nat.testBit_or, Nat.testBit_two_pow]
          by_cases e : k = i
          · subst e; simp
          · rw [if_neg e, hm k]; have e' : ¬ i = k := fun h => e h.symm; simp [e']
        obtain ⟨kn2, run, h2, h3, h4⟩ := guard_abs h1 (fun d t h => by simp at h)
        have hwant : Region.wanted o (yielded ops a.tmps) = run := by
          rcases h4 with ⟨hg, hr⟩ | ⟨j, want, d, t, hg, hd, htt, hr⟩ | ⟨j, want, d, hg, hd, htt, hr⟩
          · rw [hr]; simp [Region.wanted, hg]
          · rw [hr]; exact wanted_of hg hd (truth_ok (hs.tm d) htt)
          · have hb := hs.tm d
            rw [htt] at hb
            rw [hr]; exact wanted_skip hg hd (ra_skip_eq hb)
        unfold wpOpIn
        rw [ho]
        simp only [hwant]
        cases run with
        | true =>
          rw [if_pos rfl]
          have hko : KnOk kn2 a := fun d t hd => truth_ok (hs.tm d) (h3 d t hd)
          refine Oper.wpIn_mono (fun a2 w2 hp => ?_) (one_sound hE hI hIf hY h2 hs hko)
          obtain ⟨_, _, st2, β2, Z2, r1, r2, r3, r4, r5, r6⟩ := hp
          exact ih _ st2 β2 Z2 a2 w2 _ r1 r2 (ht.trans r3) (r4.trans hsz) (fun t h => (r5 t (h o hmem)).trans (hkeep t h)) (r6.trans hdef) (by simp [hls]) hm'
        | false =>
          rw [if_neg (by simp)]
          simp only at h2
          split at h2
          · rename_i hh
            obtain ⟨s1, s2⟩ := skip_ok hs hh
            refine ⟨fun _ _ => trivial, ih _ _ β Z _ w _ h2 s1 (ht.trans s2) hsz (fun t h => ?_) ?_ (by simp [hls]) hm'⟩
            · rw [getD_put, if_neg (fun hh => h o hmem hh.1)]; exact hkeep t h
            · rw [← hdef]; cases o.dst <;> rfl
          · exact h2.elim

theorem draw_ok2 (hE : EnvOk P E) (hI : InlOk P E inl) (hIf : InlFn E inl) (hY : YldOk P E yld) (id : Nat) (ops : Array Oper) :
    CodeOk P E (.region id ops true) (fun st Q => vcAny E inl yld ops.toList ops.size 0 st (Q .normal)) := by
  intro st Q h ro B0 β Z a w hs hm hro
  refine wpIn_region_draw fun t => ?_
  simp only [Region.schedule, hE.mix, Bool.true_or, if_true]
  refine wpAnyIn_sound ops.size t _ a _ ?_
  have evD : Evo (Own β st.hp) Z w Z { w with drawn := w.drawn + 1 } := ⟨rfl, rfl, rfl, Nat.le_refl _, fun _ _ _ => rfl, fun _ cs _ h => ⟨cs, h, rfl⟩, fun _ r h => ⟨r, h, rfl, rfl, rfl, rfl, rfl, rfl⟩, fun _ h => h⟩
  have hsD : SatH E 0 (fun n => st.nx ≤ n) β Z st.hp { w with drawn := w.drawn + 1 } :=
    hs.heap.step evD (Ext.refl β) (fun n blk hn => .inl ⟨hn, fun b ln hb => ⟨rfl, (hs.heap.own n blk b ln hn hb).2.1⟩⟩) hs.heap.inj hs.heap.zlt hs.heap.fresh
  have hS : Sat E st β Z a { w with drawn := w.drawn + 1 } := ⟨hsD, fun t => RA.mono evD hs.heap.calm (Ext.refl _) (hs.tm t), hs.sz⟩
  have hT : Turn (HS.of st β Z w) (HS.of st β Z { w with drawn := w.drawn + 1 }) := ⟨evD, Ext.refl _, fun _ h => .inl h, fun _ h => .inl h, Nat.le_refl _, fun _ h => h, fun _ _ _ => rfl⟩
  have hkeepW : ∀ t, writes (.region id ops true) t = false → ∀ o ∈ ops.toList, o.dst ≠ some t := fun t hw o ho e => by
    simp only [writes, List.any_eq_false] at hw
    have := hw o ho
    rw [e] at this
    simp at this
  have hfalse : ∀ k, (Array.replicate ops.size false).getD k false = false := fun k => by
    by_cases hk : k < ops.size <;> simp [Array.getD, hk]
  exact any_go hE hI hIf hY (x0 := HS.of st β Z w) (sz := st.sz) (a0 := a) (K := Q .normal) (fun st' β' Z' a' w' hk hs' ht hsz hkeep hdef => ⟨st', β', Z', hk, hs', ht, hsz, fun t hw => hkeep t (hkeepW t hw), by rw [hdef]; exact hm.turn ht⟩)
    ops.size 0 st β Z a _ _ h hS hT rfl (fun _ _ => rfl) rfl (by simp) (fun k => by rw [hfalse]; simp)

theorem draw_ok (hE : EnvOk P E) (hI : InlOk P E inl) (hIf : InlFn E inl) (hY : YldOk P E yld) : DrawOk P E inl yld := ⟨draw_ok1 hE hI hIf hY, draw_ok2 hE hI hIf hY⟩

/-- **A function's contract from its conditions.** -/
theorem contract (hE : EnvOk P E) {fuel : Nat} {f : FuncId} {args : List TV} {rs : List RV} (h : inlOf E (vc E fuel) f args (fun _ => none) 0 [] (fun v hp _ _ => resFit hp v rs)) : CallQ P E f args rs :=
  callQ_of hE (fun _ _ hI hIf hY => draw_ok hE hI hIf hY) h
end
end Go.Sx
