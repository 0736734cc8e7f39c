/- The framework Sx, part 8: the conditions of code are sound. -/
import Derived.Test.YthcplmlkgaiggaaSxKept
import Derived.Test.YthcplmlkgaiggaaSxHead
import Derived.Sort.LoopGhostIn
set_option linter.unusedSimpArgs false
set_option linter.unusedVariables false
namespace Go.Sx

def markOf (r : Nat) : Deferred := { target := .collected r, args := #[] }

/-- The marks among the deferred calls. `B0`: the heap's size when the function was entered. -/
def Marks (B0 : Nat) (x : HS) (ds : List Deferred) : Prop :=
  B0 ≤ x.w.heap.size ∧ ∃ l : List Nat, ds = l.map markOf ∧ l.Nodup ∧ ∀ r ∈ l, B0 ≤ r ∧ x.w.heap[r]? = some (.deferred (some [])) ∧ ¬ Own x.β x.hp r ∧ ¬ x.Z r

def RoundOk (ro : Option Nat) (w : World) : Prop := ∀ l, ro = some l → ∃ r, w.heap[l]? = some (.loop r)

theorem Marks.turn {B0 : Nat} {x y : HS} {ds : List Deferred} (h : Marks B0 x ds) (t : Turn x y) : Marks B0 y ds := by
  obtain ⟨h0, l, rfl, h2, h3⟩ := h
  refine ⟨Nat.le_trans h0 t.ev.size, l, rfl, h2, fun r hr => ?_⟩
  obtain ⟨a0, a1, a2, a3⟩ := h3 r hr
  have hlt : r < x.w.heap.size := (Array.getElem?_eq_some_iff.1 a1).1
  refine ⟨a0, by rw [t.ev.same r hlt a2]; exact a1, fun ho => ?_, fun hz => ?_⟩
  · rcases t.own r ho with h | h
    · exact a2 h
    · omega
  · rcases t.zown r hz with h | h | h
    · exact a3 h
    · exact a2 h
    · omega

theorem RoundOk.turn {ro : Option Nat} {x y : HS} (h : RoundOk ro x.w) (t : Turn x y) : RoundOk ro y.w := fun l hl =>
  let ⟨r, hr⟩ := h l hl
  let ⟨r', hr', _⟩ := t.ev.loops l r hr
  ⟨r', hr'⟩

/-- What code leaves. -/
def Post (E : Env) (B0 : Nat) (Q : Exit → St → Prop) (c : Code) (x : HS) (sz : Nat) (a : Act) : Exit → Act → World → Prop := fun e a' w' =>
  ∃ st' β' Z', Q e st' ∧ Sat E st' β' Z' a' w' ∧ Turn x (HS.of st' β' Z' w') ∧ st'.sz = sz ∧ (∀ t, writes c t = false → a'.tmps.getD t undef = a.tmps.getD t undef) ∧ Marks B0 (HS.of st' β' Z' w') a'.defers

def CodeOk (P : Program) (E : Env) (c : Code) (f : St → (Exit → St → Prop) → Prop) : Prop :=
  ∀ st Q, f st Q → ∀ ro B0 β Z a w, Sat E st β Z a w → Marks B0 (HS.of st β Z w) a.defers → RoundOk ro w → c.wpIn (Fn ro) 0 P (Post E B0 Q c (HS.of st β Z w) st.sz a) a w

section
variable {P : Program} {E : Env} {β β' : Nat → Loc} {Z Z' : Nat → Prop} {hp : Hp} {w w' : World} {inl : CallVC} {yld : YieldVC}

def KnOk (kn : Nat → Option Bool) (a : Act) : Prop := ∀ d b, kn d = some b → a.tmps.getD d undef = .bool b

theorem KnOk.upd {kn : Nat → Option Bool} {a : Act} (h : KnOk kn a) {d : Nat} {b : Bool} (hb : a.tmps.getD d undef = .bool b) : KnOk (upd kn d (some b)) a := fun d' b' h' => by
  by_cases e : d' = d
  · subst e; rw [upd_same] at h'; injection h' with h'; subst h'; exact hb
  · rw [upd_ne _ _ e] at h'; exact h d' b' h'

theorem split_ok {kn : Nat → Option Bool} {d : Nat} {x : AV} {K : (Nat → Option Bool) → Bool → Prop} {a : Act} (h : split kn d x K) (hx : RA β Z w x (a.tmps.getD d undef)) (hk : KnOk kn a) :
    ∃ kn' t, K kn' t ∧ a.tmps.getD d undef = .bool t ∧ KnOk kn' a := by
  unfold split at h
  split at h
  · rename_i t ht
    exact ⟨kn, t, h, hk d t ht, hk⟩
  · split at h
    · exact ⟨kn, true, h, hx, hk⟩
    · exact ⟨kn, false, h, hx, hk⟩
    · rename_i b
      have hb : a.tmps.getD d undef = .bool b := hx
      cases b
      · exact ⟨_, false, h.2 rfl, hb, hk.upd hb⟩
      · exact ⟨_, true, h.1 rfl, hb, hk.upd hb⟩
    · exact h.elim

theorem forget_ok {kn : Nat → Option Bool} {a a' : Act} (h : KnOk kn a) {dst : Option Nat} (keep : ∀ t, dst ≠ some t → a'.tmps.getD t undef = a.tmps.getD t undef) : KnOk (forget kn dst) a' := fun d b hb => by
  cases dst with
  | none => rw [keep d (by simp)]; exact h d b hb
  | some e =>
    simp only [forget] at hb
    by_cases e1 : d = e
    · subst e1; rw [upd_same] at hb; simp at hb
    · rw [upd_ne _ _ e1] at hb
      rw [keep d (by simp [Ne.symm e1])]; exact h d b hb

theorem wanted_of {ops : Array Oper} {o : Oper} {j d : Nat} {want t : Bool} {a : Act} (hg : o.guard = some (j, want)) (hs : slotOf ops.toList j = some d) (ht : a.tmps.getD d undef = .bool t) :
    Region.wanted o (yielded ops a.tmps) = same t want := by
  have hd : (ops[j]?).bind (·.dst) = some d := by
    unfold slotOf at hs
    rw [Array.getElem?_toList] at hs
    split at hs
    · rename_i o' ho'; simp [ho', hs]
    · simp at hs
  have hv : a.tmps[d]? = some (.bool t) := by
    rw [Array.getD_eq_getD_getElem?] at ht
    cases h : a.tmps[d]? with
    | none => rw [h] at ht; simp [undef] at ht
    | some v => rw [h] at ht; simp at ht; rw [ht]
  have hy : yielded ops a.tmps j = some t := by
    unfold yielded
    simp [hd, hv]
  unfold Region.wanted
  simp only [hg, hy]
  cases t <;> cases want <;> rfl

theorem isSkip_ok {x : AV} (h : isSkip x = true) : x = .tup [] := by
  unfold isSkip at h
  split at h
  · rfl
  · cases h

theorem ra_skip {w : World} {β : Nat → Loc} {Z : Nat → Prop} : RA β Z w (.tup []) undef := ⟨#[], rfl, rfl, fun i x h => by simp at h⟩
theorem ra_skip_eq {w : World} {β : Nat → Loc} {Z : Nat → Prop} {v : Value} (h : RA β Z w (.tup []) v) : v = undef := by
  obtain ⟨vs, rfl, h1, _⟩ := h
  have : vs = #[] := by simpa using h1
  rw [this]; rfl

theorem wanted_skip {ops : Array Oper} {o : Oper} {j d : Nat} {want : Bool} {a : Act} (hg : o.guard = some (j, want)) (hs : slotOf ops.toList j = some d) (ht : a.tmps.getD d undef = undef) :
    Region.wanted o (yielded ops a.tmps) = false := by
  have hd : (ops[j]?).bind (·.dst) = some d := by
    unfold slotOf at hs
    rw [Array.getElem?_toList] at hs
    split at hs
    · rename_i o' ho'; simp [ho', hs]
    · simp at hs
  have hy : yielded ops a.tmps j = none := by
    unfold yielded
    rw [hd]
    rw [Array.getD_eq_getD_getElem?] at ht
    cases h : a.tmps[d]? with
    | none => simp [h]
    | some v => rw [h] at ht; simp at ht; subst ht; simp [h, undef]
  unfold Region.wanted
  simp only [hg, hy]
  rfl

/-- What a guard says. -/
def GSay (ops : List Oper) (o : Oper) (tm : Nat → AV) (run : Bool) : Prop :=
  (o.guard = none ∧ run = true) ∨ (∃ j want d t, o.guard = some (j, want) ∧ slotOf ops j = some d ∧ truth (tm d) = some t ∧ run = same t want) ∨
  (∃ j want d, o.guard = some (j, want) ∧ slotOf ops j = some d ∧ tm d = .tup [] ∧ run = false)

theorem frzOne_ok {st : St} {a : Act} {t : Nat} (h : Sat E st β Z a w) : ∃ Z', Sat E (frzOne t st) β Z' a w ∧ Turn (HS.of st β Z w) (HS.of (frzOne t st) β Z' w) ∧ (frzOne t st).sz = st.sz := by
  have id_ : frzOne t st = st → ∃ Z', Sat E (frzOne t st) β Z' a w ∧ Turn (HS.of st β Z w) (HS.of (frzOne t st) β Z' w) ∧ (frzOne t st).sz = st.sz := fun e => by rw [e]; exact ⟨Z, h, Turn.refl _, rfl⟩
  cases htm : st.tm t with
  | any => exact id_ (by unfold frzOne; rw [htm])
  | tup => exact id_ (by unfold frzOne; rw [htm])
  | t x =>
    cases x with
    | a => exact id_ (by unfold frzOne; rw [htm])
    | c x =>
      by_cases hx : ∃ n sz l, x = .os n sz l
      · obtain ⟨n, sz, l, rfl⟩ := hx
        cases hn : st.hp n with
        | none => exact id_ (by unfold frzOne; rw [htm]; simp only [hn])
        | some b =>
          cases b with
          | box => exact id_ (by unfold frzOne; rw [htm]; simp only [hn])
          | mp => exact id_ (by unfold frzOne; rw [htm]; simp only [hn])
          | mpI => exact id_ (by unfold frzOne; rw [htm]; simp only [hn])
          | lp => exact id_ (by unfold frzOne; rw [htm]; simp only [hn])
          | row e size len get =>
            cases hb : Nat.beq sz size with
            | false => exact id_ (by unfold frzOne; rw [htm]; simp only [hn, hb])
            | true =>
              have e1 : frzOne t st = { tm := upd st.tm t (.t (.c (.vs size len get))), sz := st.sz, hp := upd st.hp n none, nx := st.nx, wl := n :: st.wl } := by unfold frzOne; rw [htm]; simp only [hn, hb]
              rw [e1]
              have hfz := h.heap.freeze n
              have hu : ROs w (β n) sz l (a.tmps.getD t undef) := by have := h.tm t; rw [htm] at this; exact this
              refine ⟨_, ⟨hfz.sat, fun d => ?_, h.sz⟩, ⟨hfz.ev, hfz.ext, hfz.own, hfz.zown, Nat.le_refl _, fun m hm => List.mem_cons_of_mem _ hm, fun m _ hm => ?_⟩, rfl⟩
              · show RA β _ w (upd st.tm t (.t (.c (.vs size len get))) d) _
                by_cases e : d = t
                · subst e; rw [upd_same]; exact RC.of_RP (os_froze h.heap hn hu)
                · rw [upd_ne _ _ e]; exact RA.mono hfz.ev h.heap.calm hfz.ext (h.tm d)
              · show upd st.hp n none m = st.hp m
                exact upd_ne _ _ (fun e => hm (by rw [e]; exact List.mem_cons_self ..))
      · refine id_ ?_
        unfold frzOne
        rw [htm]
        cases x <;> first | rfl | exact absurd ⟨_, _, _, rfl⟩ hx

theorem frzAll_ok : ∀ {l : List Nat} {st : St} {Z : Nat → Prop} {a : Act}, Sat E st β Z a w → ∃ Z', Sat E (frzAll l st) β Z' a w ∧ Turn (HS.of st β Z w) (HS.of (frzAll l st) β Z' w) ∧ (frzAll l st).sz = st.sz
  | [], st, Z, a, h => ⟨Z, h, Turn.refl _, rfl⟩
  | t :: l, st, Z, a, h => by
    obtain ⟨Z1, h1, t1, s1⟩ := frzOne_ok (t := t) h
    obtain ⟨Z2, h2, t2, s2⟩ := frzAll_ok (l := l) h1
    exact ⟨Z2, h2, t1.trans t2, s2.trans s1⟩

theorem frzAll_has : ∀ {l : List Nat} {st : St} {d : Option Nat}, (frzAll l st).sz = st.sz → st.has d = true → (frzAll l st).has d = true := fun {l st d} hs h => by
  cases d with
  | none => rfl
  | some d => simpa only [St.has, hs] using h

/-- One operation, whatever it is. -/
theorem one_sound (hE : EnvOk P E) (hI : InlOk P E inl) (hIf : InlFn E inl) (hY : YldOk P E yld) {kn : Nat → Option Bool} {o : Oper} {st : St} {K : (Nat → Option Bool) → St → Prop} {a : Act} {ro : Option Nat} {Q' : Exit → Act → World → Prop}
    (h : vcOne E inl yld kn o st K) (hs : Sat E st β Z a w) (hk : KnOk kn a) : o.wpIn (Fn ro) 0 P a w (fun a' w' => ∃ kn', KnOk kn' a' ∧ OpPost E (HS.of st β Z w) st.sz o.dst a (K kn') a' w') Q' := by
  unfold vcOne at h
  split at h
  · rename_i hh
    split at h
    · rename_i c x y hop
      obtain ⟨kn', t, h1, h2, h3⟩ := split_ok h (hs.tm c) hk
      refine ⟨fun _ _ => trivial, ?_⟩
      rw [Oper.semAt_eq _ _ _ (fun c hc => by rw [hop] at hc; simp at hc)]
      have hrun : (execOp a.eval o).run P w = .ok (.value (if t then a.eval x else a.eval y)) w := by
        have : a.eval (.tmp c) = .bool t := h2
        simp [execOp, hop, this, asBool]
      rw [hrun]
      have hok4 : (⟨β, Z, st.hp, st.nx + 4, st.wl, w⟩ : HS).ok E := hs.heap.weaken (fun n (hn : st.nx + 4 ≤ n) => by omega)
      have hp1 := OpPost.of (val := if t then a.eval x else a.eval y) (K := K (forget kn' o.dst)) hs hh hok4 ⟨Evo.refl _ _ _, Ext.refl _, fun _ h => .inl h, fun _ h => .inl h, Nat.le_add_right _ _, fun _ h => h, fun _ _ _ => rfl⟩
        (v := pickV t (evalO E st.tm x) (evalO E st.tm y)) (by cases t; exact eval_ok hs.heap.gl hs.tm y; exact eval_ok hs.heap.gl hs.tm x) h1
      exact ⟨_, forget_ok h3 (fun t' ht' => by rw [getD_put, if_neg (fun hh => ht' hh.1)]), hp1⟩
    · obtain ⟨Z1, hs1, ht1, hz1⟩ := frzAll_ok (l := tmpsOf o) hs
      have := step_sound (K := K (forget kn o.dst)) hE hI hIf hY (ro := ro) (Q' := Q') (frzAll_has hz1 hh) h hs1
      refine Oper.wpIn_mono (fun a' w' hp => ?_) this
      obtain ⟨st', β', Z', q1, q2, q3, q4, q5, q6⟩ := hp
      exact ⟨_, forget_ok hk q5, st', β', Z', q1, q2, ht1.trans q3, q4.trans hz1, q5, q6⟩
    · have := step_sound (K := K (forget kn o.dst)) hE hI hIf hY (ro := ro) (Q' := Q') hh h hs
      refine Oper.wpIn_mono (fun a' w' hp => ?_) this
      obtain ⟨st', β', Z', q1, q2, q3, q4, q5, q6⟩ := hp
      exact ⟨_, forget_ok hk q5, st', β', Z', q1, q2, q3, q4, q5, q6⟩
  · exact h.elim

/-- An operation that is left out. -/
theorem skip_ok {st : St} {a : Act} {dst : Option Nat} (hs : Sat E st β Z a w) (hd : st.has dst = true) : Sat E (st.next dst (.tup []) st.hp (st.nx + 4) st.wl) β Z (a.put dst undef) w ∧ Turn (HS.of st β Z w) (HS.of (st.next dst (.tup []) st.hp (st.nx + 4) st.wl) β Z w) := by
  have hok4 : (⟨β, Z, st.hp, st.nx + 4, st.wl, w⟩ : HS).ok E := hs.heap.weaken (fun n (hn : st.nx + 4 ≤ n) => by omega)
  exact ⟨hs.next (y := ⟨β, Z, st.hp, st.nx + 4, st.wl, w⟩) hd hok4 (Evo.refl _ _ _) (Ext.refl _) ra_skip,
    ⟨Evo.refl _ _ _, Ext.refl _, fun _ h => .inl h, fun _ h => .inl h, Nat.le_add_right _ _, fun _ h => h, fun _ _ _ => rfl⟩⟩

theorem ops_sound (hE : EnvOk P E) (hI : InlOk P E inl) (hIf : InlFn E inl) (hY : YldOk P E yld) {ops : Array Oper} {K : St → Prop} {ro : Option Nat} {Q : Exit → Act → World → Prop} {x0 : HS} {sz : Nat} {a0 : Act}
    (hK : ∀ st' β' Z' a' w', K st' → Sat E st' β' Z' a' w' → Turn x0 (HS.of st' β' Z' w') → st'.sz = sz → (∀ t, (∀ o ∈ ops.toList, o.dst ≠ some t) → a'.tmps.getD t undef = a0.tmps.getD t undef) → a'.defers = a0.defers → Q .normal a' w') :
    ∀ (rest : List Oper), (∀ o ∈ rest, o ∈ ops.toList) → ∀ (kn : Nat → Option Bool) (st : St) (β : Nat → Loc) (Z : Nat → Prop) (a : Act) (w : World), vcOps E inl yld ops.toList rest kn st K → KnOk kn a → Sat E st β Z a w → Turn x0 (HS.of st β Z w) → st.sz = sz →
      (∀ t, (∀ o ∈ ops.toList, o.dst ≠ some t) → a.tmps.getD t undef = a0.tmps.getD t undef) → a.defers = a0.defers → wpListIn (Fn ro) 0 P ops Q rest a w
  | [], _, kn, st, β, Z, a, w, h, hk, hs, ht, hsz, hkeep, hdef => hK st β Z a w h hs ht hsz hkeep hdef
  | o :: rest, hsub, kn, st, β, Z, a, w, h, hk, hs, ht, hsz, hkeep, hdef => by
    have ho : o ∈ ops.toList := hsub o (by simp)
    have go := ops_sound hE hI hIf hY (ro := ro) (Q := Q) hK rest (fun o' h' => hsub o' (by simp [h']))
    have one : ∀ {kn : Nat → Option Bool}, KnOk kn a → vcOne E inl yld kn o st (fun kn st => vcOps E inl yld ops.toList rest kn st K) → o.wpIn (Fn ro) 0 P a w (wpListIn (Fn ro) 0 P ops Q rest) Q := fun {kn} hk h => by
      refine Oper.wpIn_mono (fun a' w' hp => ?_) (one_sound hE hI hIf hY h hs hk)
      obtain ⟨kn', hk', st', β', Z', q1, q2, q3, q4, q5, q6⟩ := hp
      exact go kn' st' β' Z' a' w' q1 hk' q2 (ht.trans q3) (q4.trans hsz) (fun t h => (q5 t (h o ho)).trans (hkeep t h)) (q6.trans hdef)
    simp only [vcOps] at h
    simp only [wpListIn]
    split at h
    · rename_i hg
      rw [if_pos (by simp [Region.wanted, hg])]
      exact one hk h
    · rename_i j want hg
      split at h
      · rename_i d hd
        have skip : ∀ kn', KnOk kn' a → Region.wanted o (yielded ops a.tmps) = false → (match st.has o.dst with
          | true => vcOps E inl yld ops.toList rest (forget kn' o.dst) (st.next o.dst (.tup []) st.hp (st.nx + 4) st.wl) K
          | false => False) → (if Region.wanted o (yielded ops a.tmps) = true then o.wpIn (Fn ro) 0 P a w (wpListIn (Fn ro) 0 P ops Q rest) Q else (∀ f, o.about P w a.eval = some f → (Fn ro).fn f) ∧ wpListIn (Fn ro) 0 P ops Q rest (a.put o.dst undef) w) := fun kn' h3 hw h1 => by
          rw [hw, if_neg (by simp)]
          split at h1
          · rename_i hh
            obtain ⟨s1, s2⟩ := skip_ok hs hh
            refine ⟨fun _ _ => trivial, go _ _ β Z _ w h1 (forget_ok h3 (fun t' ht' => by rw [getD_put, if_neg (fun hh => ht' hh.1)])) s1 (ht.trans s2) hsz (fun t h => ?_) ?_⟩
            · rw [getD_put, if_neg (fun hh => h o ho hh.1)]; exact hkeep t h
            · rw [← hdef]; cases o.dst <;> rfl
          · exact h1.elim
        split at h
        · rename_i hsk
          have hr := hs.tm d
          rw [isSkip_ok hsk] at hr
          exact skip kn hk (wanted_skip hg hd (ra_skip_eq hr)) h
        · obtain ⟨kn', t, h1, h2, h3⟩ := split_ok h (hs.tm d) hk
          have hwt := wanted_of hg hd h2
          split at h1
          · rename_i he
            rw [hwt, he, if_pos rfl]
            exact one h3 h1
          · rename_i he
            exact skip kn' h3 (hwt.trans he) h1
      · exact h.elim
end
end Go.Sx
