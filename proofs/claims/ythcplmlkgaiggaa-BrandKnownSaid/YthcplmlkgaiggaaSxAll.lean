/- The framework Sx, part 11: all code; contracts. -/
import Derived.Test.YthcplmlkgaiggaaSxMain
set_option linter.unusedSimpArgs false
set_option linter.unusedVariables false
namespace Go.Sx
section
variable {P : Program} {E : Env} {β β' : Nat → Loc} {Z Z' : Nat → Prop} {hp : Hp} {w w' : World} {inl : CallVC} {yld : YieldVC}

theorem stepR_scope {b : Frame} {a : Act} {k : List Item} {cs : List Frame} {c : Code} : step P (lone (b.atR a (.code (.scope c) :: k)) cs w) = .next (lone (b.atR a (.code c :: .inScope c :: k)) cs w) :=
  step_lone_go (by simp [stepG, stepG.exec, Frame.atR])
theorem stepR_inScope {b : Frame} {a : Act} {k : List Item} {cs : List Frame} {c : Code} : step P (lone (b.atR a (.inScope c :: k)) cs w) = .next (lone (b.atR a k) cs w) :=
  step_lone_go (by simp [stepG, stepG.exec, Frame.atR])

theorem wpIn_scope {F : Fence} {n : Nat} {Q : Exit → Act → World → Prop} {a : Act} {c : Code} (h : c.wpIn F n P (fun e a w => match e with | .goto _ => False | e => Q e a w) a w) : (Code.scope c).wpIn F n P Q a w := by
  intro b k cs hro hb hr
  have h0 : (lone (b.atR a (.code (.scope c) :: k)) cs w).fenced P F := fenced_calm hb hr rfl
  obtain ⟨e, a₁, w₁, hq, harr⟩ := h b (.inScope c :: k) cs hro hb hr
  cases e with
  | normal => exact ⟨.normal, a₁, w₁, hq, .head h0 stepR_scope (StepsIn.trans harr (.one (fenced_calm hb hr rfl) stepR_inScope))⟩
  | exit id =>
    have hx : exitTo id (.inScope c :: k) = exitTo id k := by simp [exitTo]
    exact ⟨.exit id, a₁, w₁, hq, fun k' hk => .head h0 stepR_scope (harr.1 k' (by rw [hx]; exact hk)),
        fun hr' hk => let ⟨k₁, h1, h2⟩ := harr.2 hr' (by rw [hx]; exact hk); ⟨k₁, h1, .head h0 stepR_scope h2⟩⟩
  | goto l => exact hq.elim
  | ret => exact ⟨_, a₁, w₁, hq, .of_steps (.one h0 stepR_scope) harr⟩
  | panic ch => exact ⟨_, a₁, w₁, hq, .of_steps (.one h0 stepR_scope) harr⟩
  | outgrown => exact ⟨_, a₁, w₁, hq, .of_steps (.one h0 stepR_scope) harr⟩

theorem wkAll_ok : ∀ {l : List (Nat × Blk)} {st : St} {a : Act} {K : St → Prop}, wkAll l st K → Sat E st β Z a w → ∃ st', K st' ∧ Sat E st' β Z a w ∧ Turn (HS.of st β Z w) (HS.of st' β Z w) ∧ st'.sz = st.sz
  | [], st, a, K, h, hs => ⟨st, h, hs, Turn.refl _, rfl⟩
  | (n, b) :: l, st, a, K, h, hs => by
    obtain ⟨h1, h2⟩ := h
    split at h1
    · rename_i b1 hb1
      have hb : RB β Z w (β n) b := fitBlk_ok (ρ := fun m => .nm m) ⟨fun m k e => by injection e with e; subst e; rfl, fun m e => by cases e⟩ h1 (hs.heap.rb n b1 hb1)
      have hs1 : Sat E { tm := st.tm, sz := st.sz, hp := upd st.hp n (some b), nx := st.nx, wl := n :: st.wl } β Z a w := ⟨hs.heap.less hb1 hb, hs.tm, hs.sz⟩
      obtain ⟨st', k1, k2, k3, k4⟩ := wkAll_ok h2 hs1
      refine ⟨st', k1, k2, Turn.trans (y := HS.of { tm := st.tm, sz := st.sz, hp := upd st.hp n (some b), nx := st.nx, wl := n :: st.wl } β Z w) ⟨Evo.refl _ _ _, Ext.refl _, fun k hk => .inl ?_, fun _ h => .inl h, Nat.le_refl _, fun m hm => List.mem_cons_of_mem _ hm, fun m _ hm => ?_⟩ k3, k4⟩
      · obtain ⟨m, x, ln, q1, q2⟩ := hk
        by_cases e : m = n
        · subst e; exact ⟨m, b1, ln, hb1, q2⟩
        · have q1 : upd st.hp n (some b) m = some x := q1
          rw [upd_ne _ _ e] at q1; exact ⟨m, x, ln, q1, q2⟩
      · show upd st.hp n (some b) m = st.hp m
        exact upd_ne _ _ (fun e => hm (by rw [e]; exact List.mem_cons_self ..))
    · exact h1.elim

theorem each_one {n : Int} {p : Int → Prop} : ∀ {l : List Int}, oneOf n l → eachOf n l p → p n
  | [], h, _ => h.elim
  | a :: l, h, h' => by
    rcases h with rfl | h
    · exact h'.1 rfl
    · exact each_one h h'.2

theorem csAll_ok : ∀ {l : List (Nat × List Int)} {st : St} {a : Act} {K : St → Prop}, csAll l st K → Sat E st β Z a w → ∃ st', K st' ∧ Sat E st' β Z a w ∧ Turn (HS.of st β Z w) (HS.of st' β Z w) ∧ st'.sz = st.sz
  | [], st, a, K, h, hs => ⟨st, h, hs, Turn.refl _, rfl⟩
  | (t, ls) :: l, st, a, K, h, hs => by
    simp only [csAll] at h
    split at h
    · rename_i k n htm
      have h2 := each_one (p := fun m => csAll l { tm := upd st.tm t (.t (.c (.int k m))), sz := st.sz, hp := st.hp, nx := st.nx, wl := st.wl } K) h.1 h.2
      have hs1 : Sat E { tm := upd st.tm t (.t (.c (.int k n))), sz := st.sz, hp := st.hp, nx := st.nx, wl := st.wl } β Z a w := ⟨hs.heap, fun d => by
        show RA β Z w (upd st.tm t (.t (.c (.int k n))) d) _
        by_cases e : d = t
        · subst e; rw [upd_same, ← htm]; exact hs.tm d
        · rw [upd_ne _ _ e]; exact hs.tm d, hs.sz⟩
      obtain ⟨st', k1, k2, k3, k4⟩ := csAll_ok h2 hs1
      exact ⟨st', k1, k2, k3, k4⟩
    · exact h.elim

theorem pre_code {c : Code} {f : St → (Exit → St → Prop) → Prop} (h : CodeOk P E c f) (l : St → List Nat) (k : St → List (Nat × Blk)) (q : List (Nat × List Int)) : CodeOk P E c (fun st Q => wkAll (k st) (frzAll (l st) st) fun st => csAll q st fun st => f st Q) := by
  intro st Q hf ro B0 β Z a w hs hm hro
  obtain ⟨Z', h1, h2, h3⟩ := frzAll_ok (l := l st) hs
  obtain ⟨st0, j1, j2, j3, j4⟩ := wkAll_ok hf h1
  obtain ⟨st1, k1, k2, k3, k4⟩ := csAll_ok j1 j2
  have t := (h2.trans j3).trans k3
  refine wpIn_mono (h st1 Q k1 ro B0 β Z' a w k2 (hm.turn t) hro) fun e a' w' hp => ?_
  obtain ⟨st', β', Z2, q1, q2, q3, q4, q5, q6⟩ := hp
  exact ⟨st', β', Z2, q1, q2, t.trans q3, q4.trans (k4.trans (j4.trans h3)), q5, q6⟩

theorem list_ok (hE : EnvOk P E) (hI : InlOk P E inl) (hIf : InlFn E inl) (hY : YldOk P E yld) (id : Nat) (ops : Array Oper) : CodeOk P E (.region id ops false) (fun st Q => vcOps E inl yld ops.toList ops.toList (fun _ => none) st (Q .normal)) := by
  intro st Q h ro B0 β Z a w hs hm _
  refine wpIn_region_list (ops_sound hE hI hIf hY (x0 := HS.of st β Z w) (sz := st.sz) (a0 := a) (K := Q .normal) (fun st' β' Z' a' w' hk hs' ht hsz hkeep hdef => ⟨st', β', Z', hk, hs', ht, hsz, fun t hw => hkeep t (fun o ho e => ?_), by rw [hdef]; exact hm.turn ht⟩)
    ops.toList (fun o h => h) (fun _ => none) st β Z a w h (fun d b h => by simp at h) hs (Turn.refl _) rfl (fun _ _ => rfl) rfl)
  simp only [writes, List.any_eq_false] at hw
  have := hw o ho
  rw [e] at this
  simp at this

theorem walk_ok (hE : EnvOk P E) (hI : InlOk P E inl) (hIf : InlFn E inl) (hY : YldOk P E yld) (hD : DrawOk P E inl yld) (fid : FuncId) (c : Code) : CodeOk P E c (walk E fid inl yld c) := by
  induction c with
  | skip => exact fun st Q h ro B0 β Z a w hs hm _ => wpIn_skip ⟨st, β, Z, h, hs, Turn.refl _, rfl, fun _ _ => rfl, hm⟩
  | label l => exact fun st Q h ro B0 β Z a w hs hm _ => wpIn_label ⟨st, β, Z, h, hs, Turn.refl _, rfl, fun _ _ => rfl, hm⟩
  | ret => exact fun st Q h ro B0 β Z a w hs hm _ => wpIn_ret ⟨st, β, Z, h, hs, Turn.refl _, rfl, fun _ _ => rfl, hm⟩
  | exit id => exact fun st Q h ro B0 β Z a w hs hm _ => wpIn_exit ⟨st, β, Z, h, hs, Turn.refl _, rfl, fun _ _ => rfl, hm⟩
  | goto l => exact fun st Q h => h.elim
  | scope c ih =>
    intro st Q h ro B0 β Z a w hs hm hro
    simp only [walk] at h
    refine wpIn_scope (wpIn_mono (ih _ _ h ro B0 β Z a w hs hm hro) fun e a1 w1 hp1 => ?_)
    obtain ⟨st1, β1, Z1, hq, hs1, ht1, hsz1, hk1, hm1⟩ := hp1
    cases e with
    | goto => exact hq.elim
    | normal => exact ⟨st1, β1, Z1, hq, hs1, ht1, hsz1, hk1, hm1⟩
    | exit => exact ⟨st1, β1, Z1, hq, hs1, ht1, hsz1, hk1, hm1⟩
    | ret => exact ⟨st1, β1, Z1, hq, hs1, ht1, hsz1, hk1, hm1⟩
    | panic => exact ⟨st1, β1, Z1, hq, hs1, ht1, hsz1, hk1, hm1⟩
    | outgrown => exact ⟨st1, β1, Z1, hq, hs1, ht1, hsz1, hk1, hm1⟩
  | refuse s => exact fun st Q h => h.elim
  | rangeFunc f ps asg body => exact range_ok hE hI hIf
  | loop c ih => exact loop_ok ih
  | region id ops draw =>
    cases draw with
    | true =>
      intro st Q h ro B0 β Z a w hs hm hro
      simp only [walk] at h
      refine pre_code (f := fun st Q => withBefores (fun bs => match (loose ops.toList bs && !(E.any fid id)) || E.every fid id with
        | true => vcAny E inl yld ops.toList ops.size 0 st (Q .normal)
        | false => (match orderly ops.toList bs with
          | true => vcDraw E inl yld ops.toList bs ops.toList 0 st.nx 0 (fun _ => none) st (Q .normal)
          | false => False)) ops.toList []) (fun st Q h => ?_) (fun _ => E.frz fid id) (fun st => E.wk fid id st) (E.cs fid id) st Q h ro B0 β Z a w hs hm hro
      obtain ⟨bs, h⟩ := withBefores_ok h
      split at h
      · exact hD.2 id ops st Q h
      · split at h
        · rename_i ho
          exact hD.1 id ops bs ho st Q h
        · exact h.elim
    | false =>
      intro st Q h ro B0 β Z a w hs hm hro
      exact pre_code (list_ok hE hI hIf hY id ops) (fun _ => E.frz fid id) (fun st => E.wk fid id st) (E.cs fid id) st Q h ro B0 β Z a w hs hm hro
  | seq x y ihx ihy =>
    intro st Q h ro B0 β Z a w hs hm hro
    have wr : ∀ t, writes (.seq x y) t = false → writes x t = false ∧ writes y t = false := fun t h => by simpa [writes] using h
    simp only [walk] at h
    split at h
    · refine wpIn_seq (wpIn_mono (ihx _ _ h ro B0 β Z a w hs hm hro) fun e a1 w1 hp1 => ?_)
      obtain ⟨st1, β1, Z1, hq, hs1, ht1, hsz1, hk1, hm1⟩ := hp1
      cases e with
      | normal => exact wpIn_mono (ihy _ _ hq ro B0 β1 Z1 a1 w1 hs1 hm1 (hro.turn ht1)) fun e a2 w2 h2 => Post.then_ ht1 hsz1 hk1 h2 wr
      | exit => exact ⟨st1, β1, Z1, hq, hs1, ht1, hsz1, fun t h => hk1 t (wr t h).1, hm1⟩
      | ret => exact ⟨st1, β1, Z1, hq, hs1, ht1, hsz1, fun t h => hk1 t (wr t h).1, hm1⟩
      | goto => exact ⟨st1, β1, Z1, hq, hs1, ht1, hsz1, fun t h => hk1 t (wr t h).1, hm1⟩
      | panic => exact ⟨st1, β1, Z1, hq, hs1, ht1, hsz1, fun t h => hk1 t (wr t h).1, hm1⟩
      | outgrown => exact ⟨st1, β1, Z1, hq, hs1, ht1, hsz1, fun t h => hk1 t (wr t h).1, hm1⟩
    · rename_i A _
      obtain ⟨hx, hy⟩ := h
      have hs0 : Sat E { st with wl := [] } β Z a w := ⟨hs.heap, hs.tm, hs.sz⟩
      refine wpIn_seq (wpIn_mono (ihx _ _ hx ro B0 β Z a w hs0 hm hro) fun e a1 w1 hp1 => ?_)
      obtain ⟨st1, β1, Z1, hq, hs1, ht1, hsz1, hk1, hm1⟩ := hp1
      have T1 : Turn (HS.of st β Z w) ⟨β1, Z1, st1.hp, st1.nx, st1.wl ++ st.wl, w1⟩ :=
        ⟨ht1.ev, ht1.ext, ht1.own, ht1.zown, ht1.nx, fun n hn => List.mem_append.2 (.inr hn), fun n hn hw => ht1.frame n hn (fun hh => hw (List.mem_append.2 (.inl hh)))⟩
      have leave : ∀ {e : Exit}, Q e { st1 with wl := st1.wl ++ st.wl } → Post E B0 Q (.seq x y) (HS.of st β Z w) st.sz a e a1 w1 := fun hq =>
        ⟨{ st1 with wl := st1.wl ++ st.wl }, β1, Z1, hq, ⟨hs1.heap, hs1.tm, hs1.sz⟩, T1, hsz1, fun t h => hk1 t (wr t h).1, hm1⟩
      cases e with
      | normal =>
        obtain ⟨g, hok, hcome⟩ := hq
        have hcome2 := hcome
        obtain ⟨hchk, _, _⟩ := hcome2
        have hchk := chk_iff.1 hchk
        simp only [Bool.and_eq_true, List.all_eq_true, Bool.or_eq_true, List.any_eq_true] at hchk
        obtain ⟨_, hwl⟩ := hchk
        have kept : ∀ n, n < st.nx → n ∉ A.dom st → st1.hp n = st.hp n := fun n hn hnd => by
          have hnw : n ∉ st1.wl := fun hmem => by
            rcases hwl n hmem with h1 | ⟨x, hx, h1⟩
            · exact absurd (Nat.le_of_ble_eq_true h1) (by omega)
            · rw [Nat.eq_of_beq_eq_true h1] at hnd; exact hnd hx
          exact ht1.frame n hn hnw
        obtain ⟨β2, k1, k2⟩ := arrive (c := x) (st1 := st1) (a1 := a1) hs hs1.heap hs1.tm (by rw [hs1.sz, hsz1]) ht1.ev ht1.ext ht1.own ht1.zown kept hk1 hcome
        obtain ⟨m0, l, ml, mn, mr⟩ := hm1
        have hm2 : Marks B0 (HS.of (headSt A x st g) β2 Z1 w1) a1.defers := ⟨m0, l, ml, mn, fun r hr => by
          obtain ⟨q0, q1, q2, q3⟩ := mr r hr
          exact ⟨q0, q1, not_own_deferred k1.heap q1, q3⟩⟩
        have k2' : Turn (HS.of st β Z w) ⟨β2, Z1, (headSt A x st g).hp, st.nx + 16, A.dom st ++ st.wl, w1⟩ := k2
        refine wpIn_mono (ihy _ _ (hy g hok) ro B0 β2 Z1 a1 w1 k1 hm2 (hro.turn k2)) fun e a2 w2 h2 => ?_
        obtain ⟨st2, β3, Z3, z1, z2, z3, z4, z5, z6⟩ := h2
        have T3 : Turn ⟨β2, Z1, (headSt A x st g).hp, st.nx + 16, A.dom st ++ st.wl, w1⟩ ⟨β3, Z3, st2.hp, st2.nx, st2.wl ++ (A.dom st ++ st.wl), w2⟩ :=
          ⟨z3.ev, z3.ext, z3.own, z3.zown, z3.nx, fun n hn => List.mem_append.2 (.inr hn), fun n hn hw => z3.frame n hn (fun hh => hw (List.mem_append.2 (.inl hh)))⟩
        exact ⟨{ st2 with wl := st2.wl ++ (A.dom st ++ st.wl) }, β3, Z3, z1, ⟨z2.heap, z2.tm, z2.sz⟩, k2'.trans T3, z4, fun t h => (z5 t (wr t h).2).trans (hk1 t (wr t h).1), z6⟩
      | exit => exact leave hq
      | ret => exact leave hq
      | goto => exact leave hq
      | panic => exact leave hq
      | outgrown => exact leave hq
  | cond c x y ihx ihy =>
    intro st Q h ro B0 β Z a w hs hm hro
    have wr : ∀ t, writes (.cond c x y) t = false → writes x t = false ∧ writes y t = false := fun t h => by simpa [writes] using h
    have goT : walk E fid inl yld x st Q → a.eval c = .bool true → (Code.cond c x y).wpIn (Fn ro) 0 P (Post E B0 Q (.cond c x y) (HS.of st β Z w) st.sz a) a w := fun h hc =>
      wpIn_cond_true hc (wpIn_mono (ihx _ _ h ro B0 β Z a w hs hm hro) fun e a' w' hp => hp.mono (fun _ h => h) (fun t h => (wr t h).1))
    have goF : walk E fid inl yld y st Q → a.eval c = .bool false → (Code.cond c x y).wpIn (Fn ro) 0 P (Post E B0 Q (.cond c x y) (HS.of st β Z w) st.sz a) a w := fun h hc =>
      wpIn_cond_false hc (wpIn_mono (ihy _ _ h ro B0 β Z a w hs hm hro) fun e a' w' hp => hp.mono (fun _ h => h) (fun t h => (wr t h).2))
    cases c with
    | tmp c =>
      obtain ⟨_, t, h1, h2, _⟩ := split_ok h (hs.tm c) (fun d b h => by simp at h)
      cases t with
      | true => exact goT h1 h2
      | false => exact goF h1 h2
    | const v =>
      simp only [walk] at h
      split at h
      · rename_i hv; exact goT h (RC.lit (Z := Z) (w := w) hv)
      · rename_i hv; exact goF h (RC.lit (Z := Z) (w := w) hv)
      · exact h.elim
    | global g => exact h.elim
    | func f => exact h.elim
  | block id c ih =>
    intro st Q h ro B0 β Z a w hs hm hro
    refine wpIn_block (wpIn_mono (ih _ _ h ro B0 β Z a w hs hm hro) fun e a1 w1 hp1 => ?_)
    obtain ⟨st1, β1, Z1, hq, hs1, ht1, hsz1, hk1, hm1⟩ := hp1
    cases e with
    | exit id' =>
      simp only [Exit.inBlock]
      simp only at hq
      split at hq
      · rename_i hb
        rw [if_pos (Nat.eq_of_beq_eq_true hb)]
        exact ⟨st1, β1, Z1, hq, hs1, ht1, hsz1, hk1, hm1⟩
      · rename_i hb
        rw [if_neg (fun e => by subst e; rw [Nat.beq_refl] at hb; simp at hb)]
        exact ⟨st1, β1, Z1, hq, hs1, ht1, hsz1, hk1, hm1⟩
    | normal => exact ⟨st1, β1, Z1, hq, hs1, ht1, hsz1, hk1, hm1⟩
    | ret => exact ⟨st1, β1, Z1, hq, hs1, ht1, hsz1, hk1, hm1⟩
    | goto => exact ⟨st1, β1, Z1, hq, hs1, ht1, hsz1, hk1, hm1⟩
    | panic => exact ⟨st1, β1, Z1, hq, hs1, ht1, hsz1, hk1, hm1⟩
    | outgrown => exact ⟨st1, β1, Z1, hq, hs1, ht1, hsz1, hk1, hm1⟩

/-- **Sound.** -/
theorem vc_ok (hE : EnvOk P E) (hD : ∀ inl yld, InlOk P E inl → InlFn E inl → YldOk P E yld → DrawOk P E inl yld) : ∀ (fuel : Nat) (fid : FuncId) (c : Code), CodeOk P E c (vc E fuel fid c)
  | 0, _, _ => fun _ _ h => h.elim
  | fuel + 1, fid, c => walk_ok hE (inl_ok hE (vc_ok hE hD fuel)) inl_fn (yld_ok (vc_ok hE hD fuel)) (hD _ _ (inl_ok hE (vc_ok hE hD fuel)) inl_fn (yld_ok (vc_ok hE hD fuel))) fid c

/-! ### Contracts -/

theorem fit1_ok {B : Nat} {Fr : Nat → Prop} (h : SatH E B Fr β Z hp w) {x y : TV} {v : Value} (hf : fit1 hp x y) (hx : RT β Z w x v) {l : List Nat} (hl : ∀ n, n ∈ ownTV x → n ∈ l) : RT β' (Zargs β Z hp l) w y v := by
  unfold fit1 at hf
  split at hf
  · rename_i x' hx'
    exact fitTV_ok (β1 := β') named_bad hf (pureTV_ok h (fun _ _ h => h) hx hl hx')
  · exact hf.elim

theorem fitAll_ok {B : Nat} {Fr : Nat → Prop} (h : SatH E B Fr β Z hp w) {l : List Nat} : ∀ {xs : List TV} {rs : List RV}, fitAll hp xs rs → (∀ n, n ∈ ownTVs xs → n ∈ l) → ownCount rs = 0 ∧ resHp (fun _ => none) rs 0 = (fun _ => none) ∧ xs.length = (resTVs rs 0).length ∧
    ∀ (i : Nat) (x y : TV) (v : Value), xs[i]? = some x → (resTVs rs 0)[i]? = some y → RT β Z w x v → RT β' (Zargs β Z hp l) w y v
  | [], [], _, _ => ⟨rfl, rfl, rfl, fun i x y v h => by simp at h⟩
  | [], .v _ :: _, h, _ => h.elim
  | [], .own _ _ _ _ :: _, h, _ => h.elim
  | _ :: _, [], h, _ => h.elim
  | _ :: _, .own _ _ _ _ :: _, h, _ => h.elim
  | x :: xs, .v y :: rs, hf, hl => by
    obtain ⟨h1, h2, h3, h4⟩ := fitAll_ok h hf.2 (fun n hn => hl n (by simp [ownTVs, hn]))
    refine ⟨h1, h2, by simp [resTVs, h3], fun i x' y' v hx hy hr => ?_⟩
    cases i with
    | zero =>
      simp [resTVs] at hx hy
      subst hx; subst hy
      exact fit1_ok h hf.1 hr (fun n hn => hl n (by simp [ownTVs, hn]))
    | succ i =>
      simp [resTVs] at hx hy
      exact h4 i x' y' v hx hy hr

/-- **A contract from conditions.** -/
theorem callQ_of (hE : EnvOk P E) (hD : ∀ inl yld, InlOk P E inl → InlFn E inl → YldOk P E yld → DrawOk P E inl yld) {fuel : Nat} {f : FuncId} {args : List TV} {rs : List RV}
    (h : inlOf E (vc E fuel) f args (fun _ => none) 0 [] (fun v hp _ _ => resFit hp v rs)) : CallQ P E f args rs := by
  intro Z w vs hsat hr
  let x : HS := ⟨fun _ => .no, Z, fun _ => none, 0, [], w⟩
  have xok : x.ok E := hsat.weaken (fun _ _ => trivial)
  refine CallsIn.mono (inl_ok hE (vc_ok hE hD fuel) f args x _ h xok vs hr) fun e w' hpost => ?_
  obtain ⟨val, v, y, rfl, hk, rfl, yok, yv, yt⟩ := hpost
  have noOwn : ∀ b, ¬ Own x.β x.hp b := fun b ⟨n, blk, ln, h, _⟩ => by simp [x] at h
  have evy : Evo (fun _ => False) Z w y.Z y.w := yt.ev.weaken (fun b h => (noOwn b h).elim)
  -- all results are such as stay
  have pureCase : ∀ (l : List Nat), ownCount rs = 0 → resHp (fun _ => none) rs 0 = (fun _ => none) → RA (fun _ => .no) (Zargs y.β y.Z y.hp l) y.w (resAV (resTVs rs 0)) val →
      ∃ val' β' Z', Ending.returned val = .returned val' ∧ SatH E 0 (fun n => ownCount rs ≤ n) β' Z' (resHp (fun _ => none) rs 0) y.w ∧ RA β' Z' y.w (resAV (resTVs rs 0)) val' ∧
      Evo (fun _ => False) Z w Z' y.w ∧ (∀ b, Own β' (resHp (fun _ => none) rs 0) b → w.heap.size ≤ b) ∧ (∀ b, Z' b → Z b ∨ w.heap.size ≤ b) := by
    intro l h0 h1 h2
    have hz : ∀ b, y.Z b → Zargs y.β y.Z y.hp l b := fun b hb => .inl hb
    refine ⟨val, fun _ => .no, Zargs y.β y.Z y.hp l, rfl, ?_, h2, ⟨evy.os, evy.tape, evy.output, evy.size, evy.same, evy.rows, evy.loops, fun b hb => hz b (evy.zmono b hb)⟩, fun b hb => ?_, fun b hb => ?_⟩
    · rw [h1]
      exact ⟨fun n blk h => by simp at h, fun n blk b ln h => by simp at h, fun n m x y b l1 l2 h => by simp at h, fun b hb => Zargs.lt yok b hb, fun _ _ => rfl, yok.gl.mono (own := fun _ => False) (Evo.zup hz) (fun b hb => ⟨yok.zlt b hb, fun h => h⟩)⟩
    · rw [h1] at hb
      obtain ⟨n, blk, ln, h, _⟩ := hb
      simp at h
    · rcases hb with hb | ⟨n, blk, ln, _, h3, h4⟩
      · rcases yt.zown b hb with h | h | h
        · exact .inl h
        · exact (noOwn b h).elim
        · exact .inr h
      · rcases yt.own b ⟨n, blk, ln, h3, h4⟩ with h | h
        · exact (noOwn b h).elim
        · exact .inr h
  have many : isTup v (fun l => fitAll y.hp l rs) → (resTVs rs 0).length ≠ 1 → ∃ val' β' Z', Ending.returned val = .returned val' ∧ SatH E 0 (fun n => ownCount rs ≤ n) β' Z' (resHp (fun _ => none) rs 0) y.w ∧ RA β' Z' y.w (resAV (resTVs rs 0)) val' ∧
      Evo (fun _ => False) Z w Z' y.w ∧ (∀ b, Own β' (resHp (fun _ => none) rs 0) b → w.heap.size ≤ b) ∧ (∀ b, Z' b → Z b ∨ w.heap.size ≤ b) := by
    intro hk hne
    cases v with
    | tup l =>
      obtain ⟨h1, h2, h3, h4⟩ := fitAll_ok (β' := fun _ => .no) (l := ownTVs l) yok hk (fun n hn => hn)
      obtain ⟨us, rfl, u1, u2⟩ := yv
      refine pureCase (ownTVs l) h1 h2 ?_
      have : resAV (resTVs rs 0) = .tup (resTVs rs 0) := by
        match hh : resTVs rs 0, hne with
        | [], _ => rfl
        | [_], hne => simp at hne
        | _ :: _ :: _, _ => rfl
      rw [this]
      refine ⟨us, rfl, by rw [u1, h3], fun i y' hy' => ?_⟩
      have hlt : i < l.length := by rw [h3]; exact (List.getElem?_eq_some_iff.1 hy').1
      obtain ⟨u, hu, hr⟩ := u2 i l[i] (by simp [hlt])
      exact ⟨u, hu, h4 i l[i] y' u (by simp [hlt]) hy' hr⟩
    | any => exact hk.elim
    | t => exact hk.elim
  have four : (∃ y0, rs = [.v y0]) ∨ (∃ e size len get, rs = [.own e size len get]) ∨ (∃ e size len get y0, rs = [.own e size len get, .v (.c y0)]) ∨ ((resTVs rs 0).length ≠ 1 ∧ resFit y.hp v rs = isTup v (fun l => fitAll y.hp l rs)) := by
    match rs with
    | [] => exact .inr (.inr (.inr ⟨by simp [resTVs], rfl⟩))
    | [.v y0] => exact .inl ⟨y0, rfl⟩
    | [.own e s l g] => exact .inr (.inl ⟨e, s, l, g, rfl⟩)
    | [.own e s l g, .v (.c z)] => exact .inr (.inr (.inl ⟨e, s, l, g, z, rfl⟩))
    | [.own _ _ _ _, .v (.a _ _)] => exact .inr (.inr (.inr ⟨by simp [resTVs], rfl⟩))
    | .own _ _ _ _ :: .v t :: _ :: _ => exact .inr (.inr (.inr ⟨by simp [resTVs], by cases t <;> rfl⟩))
    | .own _ _ _ _ :: .own _ _ _ _ :: _ => exact .inr (.inr (.inr ⟨by simp [resTVs], rfl⟩))
    | .v _ :: b :: _ => exact .inr (.inr (.inr ⟨by cases b <;> simp [resTVs], by cases b <;> rfl⟩))
  -- one new slice
  have ownCase : ∀ (e : TypeId) (size len : Nat) (get : Nat → Nat → CV) (l : Loc), resHp (fun _ => none) rs 0 = upd (fun _ => none) 0 (some (.row e size len get)) → ownCount rs = 1 → RB y.β y.Z y.w l (.row e size len get) → (∀ b ln, l = .at b ln → b < y.w.heap.size ∧ ¬ y.Z b ∧ w.heap.size ≤ b) →
      (∀ β' : Nat → Loc, β' 0 = l → RA β' y.Z y.w (resAV (resTVs rs 0)) val) →
      ∃ val' β' Z', Ending.returned val = .returned val' ∧ SatH E 0 (fun n => ownCount rs ≤ n) β' Z' (resHp (fun _ => none) rs 0) y.w ∧ RA β' Z' y.w (resAV (resTVs rs 0)) val' ∧
      Evo (fun _ => False) Z w Z' y.w ∧ (∀ b, Own β' (resHp (fun _ => none) rs 0) b → w.heap.size ≤ b) ∧ (∀ b, Z' b → Z b ∨ w.heap.size ≤ b) := by
    intro e size len get l hhp hcnt hrb hl hv
    rw [hhp, hcnt]
    have hpget : ∀ n blk, upd (fun _ => none) 0 (some (Blk.row e size len get)) n = some blk → n = 0 ∧ blk = .row e size len get := fun n blk hn => by
      by_cases e0 : n = 0
      · subst e0; rw [upd_same] at hn; simp at hn; exact ⟨rfl, hn.symm⟩
      · rw [upd_ne _ _ e0] at hn; simp at hn
    refine ⟨val, upd (fun _ => .no) 0 l, y.Z, rfl, ⟨fun n blk hn => ?_, fun n blk b ln hn hb => ?_, fun n m x1 y1 b l1 l2 hn hm _ _ => by rw [(hpget n _ hn).1, (hpget m _ hm).1], yok.zlt, fun n (hn : 1 ≤ n) => upd_ne _ _ (by omega), yok.gl⟩, hv _ (upd_same ..), evy, fun b hb => ?_, fun b hb => ?_⟩
    · obtain ⟨rfl, rfl⟩ := hpget n blk hn
      rw [upd_same]
      cases l with
      | no => exact hrb.elim
      | virt => exact hrb
      | «at» b ln => exact hrb
    · obtain ⟨rfl, rfl⟩ := hpget n blk hn
      rw [upd_same] at hb
      obtain ⟨q1, q2, _⟩ := hl b ln hb
      exact ⟨q1, q2, Nat.zero_le _⟩
    · obtain ⟨n, blk, ln, hn, hb⟩ := hb
      obtain ⟨rfl, rfl⟩ := hpget n blk hn
      rw [upd_same] at hb
      exact (hl b ln hb).2.2
    · rcases yt.zown b hb with h | h | h
      · exact .inl h
      · exact (noOwn b h).elim
      · exact .inr h
  -- where a new slice lies
  have ownAt : ∀ (x0 : TV) (v0 : Value) (e : TypeId) (size len : Nat) (get : Nat → Nat → CV), fitOwn y.hp x0 e size len get → RT y.β y.Z y.w x0 v0 →
      ∃ l, RB y.β y.Z y.w l (.row e size len get) ∧ (∀ b ln, l = .at b ln → b < y.w.heap.size ∧ ¬ y.Z b ∧ w.heap.size ≤ b) ∧ ROs y.w l size len v0 := by
    intro x0 v0 e size len get hk' yv
    unfold fitOwn at hk'
    split at hk'
    · rename_i n s l
      obtain ⟨h1, rfl, h2⟩ := hk'
      obtain rfl := Nat.eq_of_beq_eq_true (chk_iff.1 h1)
      split at h2
      · rename_i b hb
        refine ⟨y.β n, fitBlk_ok named_bad h2 (yok.rb n b hb), fun b' ln hb' => ?_, yv⟩
        obtain ⟨g1, g2, _⟩ := yok.own n b b' ln hb hb'
        refine ⟨g1, g2, ?_⟩
        rcases yt.own b' ⟨n, b, ln, hb, hb'⟩ with h | h
        · exact (noOwn b' h).elim
        · exact h
      · exact h2.elim
    · subst hk'
      exact ⟨.virt, rfl, fun b ln h => by simp at h, yv, rfl⟩
    · exact hk'.elim
  rcases four with ⟨y0, rfl⟩ | ⟨e, size, len, get, rfl⟩ | ⟨e, size, len, get, y0, rfl⟩ | ⟨h1, h2⟩
  · cases v with
    | t x0 => exact pureCase (ownTV x0) rfl rfl (fit1_ok yok hk yv (fun n hn => hn))
    | any => exact hk.elim
    | tup => exact hk.elim
  · cases v with
    | any => exact hk.elim
    | tup => exact hk.elim
    | t x0 =>
      obtain ⟨l, a1, a2, a3⟩ := ownAt x0 val e size len get hk yv
      exact ownCase e size len get l rfl rfl a1 a2 (fun β' hb => by
        show ROs y.w (β' 0) size len val
        rw [hb]; exact a3)
  · cases v with
    | any => exact hk.elim
    | t x0 => exact hk.elim
    | tup l0 =>
      match l0, hk, yv with
      | [x0, .c z], hk, yv =>
        obtain ⟨k1, k2, k3, k4⟩ := hk
        obtain ⟨vs, rfl, hsz, hvs⟩ := yv
        obtain ⟨u0, g0, r0⟩ := hvs 0 x0 rfl
        obtain ⟨u1, g1, r1⟩ := hvs 1 (.c z) rfl
        obtain ⟨l, a1, a2, a3⟩ := ownAt x0 u0 e size len get k1 r0
        refine ownCase e size len get l rfl rfl a1 a2 (fun β' hb => ⟨vs, rfl, hsz, fun i x hx => ?_⟩)
        match i, hx with
        | 0, hx =>
          obtain rfl : TV.c (.os 0 size len) = x := by simpa [resTVs] using hx
          refine ⟨u0, g0, ?_⟩
          show ROs y.w (β' 0) size len u0
          rw [hb]; exact a3
        | 1, hx =>
          obtain rfl : TV.c y0 = x := by simpa [resTVs] using hx
          exact ⟨u1, g1, RC.of_RP (fitP_ok k4 (flat_any (β' := β') (w' := y.w) (Z' := y.Z) (chk_iff.1 k2) r1).2)⟩
        | i + 2, hx => simp [resTVs] at hx
      | [], hk, _ => exact hk.elim
      | [_], hk, _ => exact hk.elim
      | [_, .a _ _], hk, _ => exact hk.elim
      | _ :: .c _ :: _ :: _, hk, _ => exact hk.elim
      | _ :: .a _ _ :: _ :: _, hk, _ => exact hk.elim
  · rw [h2] at hk
    exact many hk h1

/-- What is said of a function that shares blocks, from its conditions: from the blocks as they are said to be. -/
theorem semRec_of (hE : EnvOk P E) (hD : ∀ inl yld, InlOk P E inl → InlFn E inl → YldOk P E yld → DrawOk P E inl yld) {fuel : Nat} {f : FuncId} {R : RSpec} {g : R.γ}
    (h : inlBody E (vc E fuel) f (R.arg g) (canonHp (R.hp g)) (lenR (R.hp g)) [] (fun v hp _ _ => resFit hp v [.own R.e R.size (R.len g) (R.get g)])) : SemRec P E f R g := by
  intro Z β w vs hsat hr
  let x : HS := ⟨β, Z, canonHp (R.hp g), lenR (R.hp g), [], w⟩
  have xok : x.ok E := hsat
  refine CallsIn.mono (inlBody_ok hE (vc_ok hE hD fuel) f (R.arg g) x _ h xok vs hr) fun e w' hpost => ?_
  obtain ⟨val, v, y, rfl, hk, rfl, yok, yv, yt⟩ := hpost
  cases v with
  | any => exact hk.elim
  | tup => exact hk.elim
  | t x0 =>
    have hk' : fitOwn y.hp x0 R.e R.size (R.len g) (R.get g) := hk
    have zc : ∀ b, y.Z b → Z b ∨ Own β (canonHp (R.hp g)) b ∨ w.heap.size ≤ b := fun b hb => yt.zown b hb
    unfold fitOwn at hk'
    split at hk'
    · rename_i n s l
      obtain ⟨h1, rfl, h2⟩ := hk'
      obtain rfl := Nat.eq_of_beq_eq_true (chk_iff.1 h1)
      split at h2
      · rename_i b hb
        refine ⟨val, y.β n, y.Z, rfl, fitBlk_ok (β2 := fun _ => .no) named_bad h2 (yok.rb n b hb), fun b' ln hb' => ?_, yv, yt.ev, zc, yok.zlt, yok.gl⟩
        obtain ⟨g1, g2, _⟩ := yok.own n b b' ln hb hb'
        exact ⟨g1, g2, yt.own b' ⟨n, b, ln, hb, hb'⟩⟩
      · exact h2.elim
    · refine ⟨val, .virt, y.Z, rfl, hk', fun b ln h => by simp at h, ⟨yv, hk'⟩, yt.ev, zc, yok.zlt, yok.gl⟩
    · exact hk'.elim

theorem semK_end {R : KSpec} {g : R.γ} {vs : List Value} (hsat : SatH E 0 (fun m => lenR (R.hp g) ≤ m) β Z (canonHp (R.hp g)) w) (_ : RL β Z w (R.arg g) vs) {v : AV} {val : Value} {y : HS} (hk : keptFit R g v y.hp) (yok : y.ok E) (yv : RA y.β y.Z y.w v val) (yext : Ext β y.β) (yev : Evo (Own β (canonHp (R.hp g))) Z w y.Z y.w) (yz : ∀ b, y.Z b → Z b ∨ Own β (canonHp (R.hp g)) b ∨ w.heap.size ≤ b) :
    ∃ val' d Z', Ending.returned val = .returned val' ∧ R.post g d ∧ lenB (R.fin g d) = lenR (R.hp g) ∧ (∀ m blk, canonB (R.fin g d) m = some blk → RB β Z' y.w (β m) blk) ∧
      RA (fun _ => .no) Z' y.w (resAV (R.res g d)) val' ∧ Evo (Own β (canonHp (R.hp g))) Z w Z' y.w ∧ (∀ b, Z' b → Z b ∨ w.heap.size ≤ b) ∧ (∀ b, Z' b → b < y.w.heap.size) ∧ GlOk E Z' y.w := by
  obtain ⟨d, hpost, hlen, hfin, hres⟩ := hk
  have hlen := Nat.eq_of_beq_eq_true (chk_iff.1 hlen)
  have known : ∀ m, m < lenR (R.hp g) → ∃ b, canonHp (R.hp g) m = some b ∧ β m ≠ .no ∧ y.β m = β m := fun m hm => by
    obtain ⟨b, hb⟩ := canonHp_some hm
    have hrb := hsat.rb m b hb
    have hne : β m ≠ .no := fun e => by rw [e] at hrb; cases b <;> exact hrb.elim
    exact ⟨b, hb, hne, yext m hne⟩
  have hρ : Named (selfSrc (lenR (R.hp g))) y.β β := by
    refine ⟨fun m n e => ?_, fun m e => ?_⟩
    · unfold selfSrc at e
      split at e
      · rename_i hlt
        injection e with e
        subst e
        obtain ⟨_, _, _, hk⟩ := known m (Nat.le_of_ble_eq_true hlt)
        exact hk.symm
      · cases e
    · unfold selfSrc at e
      split at e <;> cases e
  have fin_at : ∀ m blk, canonB (R.fin g d) m = some blk → ∃ b1, y.hp m = some b1 ∧ fitBlk (selfSrc (lenR (R.hp g))) b1 blk := fun m blk hm => by
    obtain ⟨b1, h1, h2⟩ := finFits_get hfin hm
    exact ⟨b1, by rw [Nat.zero_add] at h1; exact h1, h2⟩
  have canonB_some : ∀ (l : List Blk) (m : Nat), m < lenB l → ∃ b, canonB l m = some b := by
    intro l
    induction l with
    | nil => intro m h; exact absurd h (Nat.not_lt_zero m)
    | cons b l ih =>
      intro m h
      cases m with
      | zero => exact ⟨b, rfl⟩
      | succ m => exact ih m (by simp [lenB] at h; omega)
  refine ⟨val, d, y.Z, rfl, hpost, hlen, fun m blk hm => ?_, ?_, yev, fun b hb => ?_, yok.zlt, yok.gl⟩
  · obtain ⟨b1, h1, h2⟩ := fin_at m blk hm
    have hlt : m < lenR (R.hp g) := by have := canonB_lt hm; omega
    have := fitBlk_ok hρ h2 (yok.rb m b1 h1)
    obtain ⟨_, _, _, hk⟩ := known m hlt
    rw [hk] at this
    exact this
  · unfold fitRes at hres
    split at hres
    · rename_i x0
      split at hres
      · rename_i y0 hl
        rw [hl]
        exact fitTV_ok (β1 := y.β) (β2 := fun _ => .no) named_bad hres yv
      · exact hres.elim
    · rename_i xs
      have tups : recTVs (fun _ => .bad) xs (R.res g d) → RA (fun _ => .no) y.Z y.w (.tup (R.res g d)) val := fun hres => by
        obtain ⟨us, rfl, u1, u2⟩ := yv
        have key : ∀ {xs l : List TV}, recTVs (fun _ => .bad) xs l → xs.length = l.length ∧ ∀ (i : Nat) (y0 : TV), l[i]? = some y0 → ∃ x0, xs[i]? = some x0 ∧ fitTV (fun _ => .bad) x0 y0 := by
          intro xs
          induction xs with
          | nil => intro l h; cases l with
            | nil => exact ⟨rfl, fun i y0 h => by simp at h⟩
            | cons => exact h.elim
          | cons a xs ih => intro l h; cases l with
            | nil => exact h.elim
            | cons c l =>
              obtain ⟨k1, k2⟩ := ih h.2
              refine ⟨by simp [k1], fun i y0 hy => ?_⟩
              cases i with
              | zero => simp at hy; subst hy; exact ⟨a, by simp, h.1⟩
              | succ i => obtain ⟨x0, q1, q2⟩ := k2 i y0 (by simpa using hy); exact ⟨x0, by simpa using q1, q2⟩
        obtain ⟨k1, k2⟩ := key hres
        refine ⟨us, rfl, by rw [u1, k1], fun i y0 hy => ?_⟩
        obtain ⟨x0, q1, q2⟩ := k2 i y0 hy
        obtain ⟨u, hu, hr⟩ := u2 i x0 q1
        exact ⟨u, hu, fitTV_ok (β1 := y.β) (β2 := fun _ => .no) named_bad q2 hr⟩
      split at hres
      · exact hres.elim
      · rename_i hne
        have : resAV (R.res g d) = .tup (R.res g d) := by
          match hh : R.res g d, hne with
          | [], _ => rfl
          | [z], hne => exact absurd rfl (hne z)
          | _ :: _ :: _, _ => rfl
        rw [this]
        exact tups hres
    · exact hres.elim
  · rcases yz b hb with h | h | h
    · exact .inl h
    · obtain ⟨m, blk, ln, hm, hbm⟩ := h
      have hlt : m < lenR (R.hp g) := by
        apply Nat.lt_of_not_le
        intro hle
        have h1 : β m = .no := hsat.fresh m hle
        have hbm : β m = .at b ln := hbm
        rw [h1] at hbm; cases hbm
      obtain ⟨c, hc⟩ := canonB_some (R.fin g d) m (by omega)
      obtain ⟨b1, h1, _⟩ := fin_at m c hc
      obtain ⟨_, _, _, hk⟩ := known m hlt
      exact absurd hb (yok.own m b1 b ln h1 (by rw [hk]; exact hbm)).2.1
    · exact .inr h

/-- What is said of a function that gives its callers' blocks back, from its conditions. -/
theorem semK_of (hE : EnvOk P E) (hD : ∀ inl yld, InlOk P E inl → InlFn E inl → YldOk P E yld → DrawOk P E inl yld) {fuel : Nat} {f : FuncId} {R : KSpec} {g : R.γ}
    (h : inlBody E (vc E fuel) f (R.arg g) (canonHp (R.hp g)) (lenR (R.hp g)) [] (fun v hp _ _ => keptFit R g v hp)) : SemK P E f R g := by
  intro Z β w vs hsat hr
  let x : HS := ⟨β, Z, canonHp (R.hp g), lenR (R.hp g), [], w⟩
  have xok : x.ok E := hsat
  refine CallsIn.mono (inlBody_ok hE (vc_ok hE hD fuel) f (R.arg g) x _ h xok vs hr) fun e w' hpost => ?_
  obtain ⟨val, v, y, rfl, hk, rfl, yok, yv, yt⟩ := hpost
  exact semK_end hsat hr hk yok yv yt.ext yt.ev (fun b hb => yt.zown b hb)


theorem finFits_len {len : Nat} {hp : Hp} : ∀ {l : List Blk} {k : Nat}, finFits len hp k l → ∀ m b, canonB l m = some b → ∃ b1, hp (k + m) = some b1 ∧ fitBlk (selfSrc len) b1 b := fun h m b hm => finFits_get h hm

theorem keptFit_of {R : ESpec} {g : R.γ} {v : AV} {hp : Hp} (h : evenFit R g v hp) : keptFit R.toK g v hp :=
  ⟨(), trivial, chk_iff.2 (by show Nat.beq (lenB ((R.hp g).map Prod.snd)) (lenR (R.hp g)) = true; rw [lenB_map]; exact Nat.beq_refl _), h.1, h.2⟩

/-- What is said of a function that leaves its callers' blocks such as they were, from its conditions; its maps are opened. -/
theorem semE_of (hE : EnvOk P E) (hD : ∀ inl yld, InlOk P E inl → InlFn E inl → YldOk P E yld → DrawOk P E inl yld) {fuel : Nat} {f : FuncId} {R : ESpec} {g : R.γ}
    (h : ∀ ms : Nat → List Int → Option Int, (∀ n T I, canonHp (R.hp g) n = some (.mpI T I) → ∀ ks x, ms n ks = some x → I ks x) →
      inlBody E (vc E fuel) f (R.arg g) (openHp ms (canonHp (R.hp g))) (lenR (R.hp g)) [] (fun v hp _ _ => evenFit R g v hp)) : SemK P E f R.toK g := by
  intro Z β w vs hsat hr
  have hsat : SatH E 0 (fun m => lenR (R.hp g) ≤ m) β Z (canonHp (R.hp g)) w := hsat
  -- the maps as they are
  have ex : ∀ n, ∃ m : List Int → Option Int, ∀ T I, canonHp (R.hp g) n = some (.mpI T I) → (∀ ks x, m ks = some x → I ks x) ∧ RB β Z w (β n) (.mp T m) := fun n => by
    by_cases hx : ∃ T I, canonHp (R.hp g) n = some (.mpI T I)
    · obtain ⟨T, I, hn⟩ := hx
      have hrb := hsat.rb n _ hn
      cases hβ : β n with
      | no => rw [hβ] at hrb; exact hrb.elim
      | virt => rw [hβ] at hrb; exact hrb.elim
      | «at» b ln =>
        rw [hβ] at hrb
        obtain ⟨es, clock, m, h1, h2, h3⟩ := hrb
        refine ⟨m, fun T' I' hn' => ?_⟩
        rw [hn] at hn'
        injection hn' with hn'
        injection hn' with e1 e2
        subst e1; subst e2
        exact ⟨h3, es, clock, h1, h2⟩
    · exact ⟨fun _ => none, fun T I hn => absurd ⟨T, I, hn⟩ hx⟩
  let ms : Nat → List Int → Option Int := fun n => Classical.choose (ex n)
  have hms : ∀ n T I, canonHp (R.hp g) n = some (.mpI T I) → (∀ ks x, ms n ks = some x → I ks x) ∧ RB β Z w (β n) (.mp T (ms n)) := fun n => Classical.choose_spec (ex n)
  have some_of : ∀ {n blk}, openHp ms (canonHp (R.hp g)) n = some blk → ∃ b0, canonHp (R.hp g) n = some b0 := fun {n blk} hn => by
    unfold openHp at hn
    split at hn
    · rename_i T I e; exact ⟨_, e⟩
    · exact ⟨_, hn⟩
  have own_of : ∀ b, Own β (openHp ms (canonHp (R.hp g))) b → Own β (canonHp (R.hp g)) b := fun b ⟨n, blk, ln, h1, h2⟩ => let ⟨b0, h0⟩ := some_of h1; ⟨n, b0, ln, h0, h2⟩
  have of_own : ∀ b, Own β (canonHp (R.hp g)) b → Own β (openHp ms (canonHp (R.hp g))) b := fun b ⟨n, blk, ln, h1, h2⟩ => by
    cases hb : openHp ms (canonHp (R.hp g)) n with
    | some c => exact ⟨n, c, ln, hb, h2⟩
    | none =>
      unfold openHp at hb
      split at hb
      · cases hb
      · rw [h1] at hb; cases hb
  have hsatO : SatH E 0 (fun m => lenR (R.hp g) ≤ m) β Z (openHp ms (canonHp (R.hp g))) w := by
    refine ⟨fun n blk hn => ?_, fun n blk b ln hn hb => ?_, fun n m x y b l1 l2 hn hm hb hb' => ?_, hsat.zlt, hsat.fresh, hsat.gl⟩
    · unfold openHp at hn
      split at hn
      · rename_i T I e
        injection hn with hn
        subst hn
        exact (hms n T I e).2
      · exact hsat.rb n blk hn
    · obtain ⟨b0, h0⟩ := some_of hn
      exact hsat.own n b0 b ln h0 hb
    · obtain ⟨b0, h0⟩ := some_of hn
      obtain ⟨b1, h1⟩ := some_of hm
      exact hsat.inj n m b0 b1 b l1 l2 h0 h1 hb hb'
  let x : HS := ⟨β, Z, openHp ms (canonHp (R.hp g)), lenR (R.hp g), [], w⟩
  have xok : x.ok E := hsatO
  refine CallsIn.mono (inlBody_ok hE (vc_ok hE hD fuel) f (R.arg g) x _ (h ms (fun n T I e => (hms n T I e).1)) xok vs hr) fun e w' hpost => ?_
  obtain ⟨val, v, y, rfl, hk, rfl, yok, yv, yt⟩ := hpost
  exact semK_end (R := R.toK) (g := g) hsat hr (keptFit_of hk) yok yv yt.ext (yt.ev.weaken own_of) (fun b hb => (yt.zown b hb).imp id (fun h => h.imp (own_of b) id))
end
end Go.Sx
