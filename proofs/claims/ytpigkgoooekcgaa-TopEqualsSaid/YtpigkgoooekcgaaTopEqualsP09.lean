/- Texts for the law of the last part, part 9. -/
import Derived.Test.YtpigkgoooekcgaaTopEqualsP08
import Derived.KernelRfl
set_option linter.unusedSimpArgs false
set_option linter.unusedVariables false
namespace Go.Sx
section
variable {P : Program} {E : Env} {β β' : Nat → Loc} {Z Z' : Nat → Prop} {hp : Hp} {w w' : World} {inl : CallVC} {yld : YieldVC}
theorem stepR_scope {b : Frame} {a : Act} {k : List Item} {cs : List Frame} {c : Code} : step P (lone (b.atR a (.code (.scope c) :: k)) cs w) = .next (lone (b.atR a (.code c :: .inScope c :: k)) cs w) :=
 step_lone_go (by simp [stepG, stepG.exec, Frame.atR])
theorem stepR_inScope {b : Frame} {a : Act} {k : List Item} {cs : List Frame} {c : Code} : step P (lone (b.atR a (.inScope c :: k)) cs w) = .next (lone (b.atR a k) cs w) :=
 step_lone_go (by simp [stepG, stepG.exec, Frame.atR])
theorem wpIn_scope {F : Fence} {n : Nat} {Q : Exit → Act → World → Prop} {a : Act} {c : Code} (h : c.wpIn F n P (fun e a w => match e with | .goto _ => False | e => Q e a w) a w) : (Code.scope c).wpIn F n P Q a w := by
 intro b k cs hro hb hr
 have h0 : (lone (b.atR a (.code (.scope c) :: k)) cs w).fenced P F := fenced_calm hb hr rfl
 obtain ⟨e, a₁, w₁, hq, harr⟩ := h b (.inScope c :: k) cs hro hb hr
 cases e with
 | normal => exact ⟨.normal, a₁, w₁, hq, .head h0 stepR_scope (StepsIn.trans harr (.one (fenced_calm hb hr rfl) stepR_inScope))⟩
 | exit id =>
   have hx : exitTo id (.inScope c :: k) = exitTo id k := by simp [exitTo]
   exact ⟨.exit id, a₁, w₁, hq, fun k' hk => .head h0 stepR_scope (harr.1 k' (by rw [hx]; exact hk)),
       fun hr' hk => let ⟨k₁, h1, h2⟩ := harr.2 hr' (by rw [hx]; exact hk); ⟨k₁, h1, .head h0 stepR_scope h2⟩⟩
 | goto l => exact hq.elim
 | ret => exact ⟨_, a₁, w₁, hq, .of_steps (.one h0 stepR_scope) harr⟩
 | panic ch => exact ⟨_, a₁, w₁, hq, .of_steps (.one h0 stepR_scope) harr⟩
 | outgrown => exact ⟨_, a₁, w₁, hq, .of_steps (.one h0 stepR_scope) harr⟩
theorem wkAll_ok : ∀ {l : List (Nat × Blk)} {st : St} {a : Act} {K : St → Prop}, wkAll l st K → Sat E st β Z a w → ∃ st', K st' ∧ Sat E st' β Z a w ∧ Turn (HS.of st β Z w) (HS.of st' β Z w) ∧ st'.sz = st.sz
 | [], st, a, K, h, hs => ⟨st, h, hs, Turn.refl _, rfl⟩
 | (n, b) :: l, st, a, K, h, hs => by
   obtain ⟨h1, h2⟩ := h
   split at h1
   · rename_i b1 hb1
     have hb : RB β Z w (β n) b := fitBlk_ok (ρ := fun m => .nm m) ⟨fun m k e => by injection e with e; subst e; rfl, fun m e => by cases e⟩ h1 (hs.heap.rb n b1 hb1)
     have hs1 : Sat E { tm := st.tm, sz := st.sz, hp := upd st.hp n (some b), nx := st.nx, wl := n :: st.wl } β Z a w := ⟨hs.heap.less hb1 hb, hs.tm, hs.sz⟩
     obtain ⟨st', k1, k2, k3, k4⟩ := wkAll_ok h2 hs1
     refine ⟨st', k1, k2, Turn.trans (y := HS.of { tm := st.tm, sz := st.sz, hp := upd st.hp n (some b), nx := st.nx, wl := n :: st.wl } β Z w) ⟨Evo.refl _ _ _, Ext.refl _, fun k hk => .inl ?_, fun _ h => .inl h, Nat.le_refl _, fun m hm => List.mem_cons_of_mem _ hm, fun m _ hm => ?_⟩ k3, k4⟩
     · obtain ⟨m, x, ln, q1, q2⟩ := hk
       by_cases e : m = n
       · subst e; exact ⟨m, b1, ln, hb1, q2⟩
       · have q1 : upd st.hp n (some b) m = some x := q1
         rw [upd_ne _ _ e] at q1; exact ⟨m, x, ln, q1, q2⟩
     · show upd st.hp n (some b) m = st.hp m
       exact upd_ne _ _ (fun e => hm (by rw [e]; exact List.mem_cons_self ..))
   · exact h1.elim
theorem each_one {n : Int} {p : Int → Prop} : ∀ {l : List Int}, oneOf n l → eachOf n l p → p n
 | [], h, _ => h.elim
 | a :: l, h, h' => by
   rcases h with rfl | h
   · exact h'.1 rfl
   · exact each_one h h'.2
theorem csAll_ok : ∀ {l : List (Nat × List Int)} {st : St} {a : Act} {K : St → Prop}, csAll l st K → Sat E st β Z a w → ∃ st', K st' ∧ Sat E st' β Z a w ∧ Turn (HS.of st β Z w) (HS.of st' β Z w) ∧ st'.sz = st.sz
 | [], st, a, K, h, hs => ⟨st, h, hs, Turn.refl _, rfl⟩
 | (t, ls) :: l, st, a, K, h, hs => by
   simp only [csAll] at h
   split at h
   · rename_i k n htm
     have h2 := each_one (p := fun m => csAll l { tm := upd st.tm t (.t (.c (.int k m))), sz := st.sz, hp := st.hp, nx := st.nx, wl := st.wl } K) h.1 h.2
     have hs1 : Sat E { tm := upd st.tm t (.t (.c (.int k n))), sz := st.sz, hp := st.hp, nx := st.nx, wl := st.wl } β Z a w := ⟨hs.heap, fun d => by
       show RA β Z w (upd st.tm t (.t (.c (.int k n))) d) _
       by_cases e : d = t
       · subst e; rw [upd_same, ← htm]; exact hs.tm d
       · rw [upd_ne _ _ e]; exact hs.tm d, hs.sz⟩
     obtain ⟨st', k1, k2, k3, k4⟩ := csAll_ok h2 hs1
     exact ⟨st', k1, k2, k3, k4⟩
   · exact h.elim
theorem fitLit_ok {x y : CV} {v : Value} (hf : fitLit x y) (hx : RP Z w x v) : RP Z w y v := by
 unfold fitLit at hf
 split at hf
 · rename_i s l g s' l' g'
   obtain ⟨h1, h2⟩ := hf
   have h1 := chk_iff.1 h1
   rw [Bool.and_eq_true] at h1
   exact fitP_ok (x := .vs s l g) (y := .vs s' l' g') ⟨chk_iff.2 h1.1, Nat.eq_of_beq_eq_true h1.2, fun i hi => allN_get h2 i hi⟩ hx
 · exact fitP_ok hf hx
theorem tmwAll_ok : ∀ {l : List (Nat × CV)} {st : St} {a : Act} {K : St → Prop}, tmwAll l st K → Sat E st β Z a w → ∃ st', K st' ∧ Sat E st' β Z a w ∧ Turn (HS.of st β Z w) (HS.of st' β Z w) ∧ st'.sz = st.sz
 | [], st, a, K, h, hs => ⟨st, h, hs, Turn.refl _, rfl⟩
 | (t, y) :: l, st, a, K, h, hs => by
   simp only [tmwAll] at h
   split at h
   · rename_i x htm
     have hx : RC β Z w x (a.tmps.getD t undef) := by have := hs.tm t; rw [htm] at this; exact this
     have hy := RC.of_RP (β := β) (fitLit_ok h.2.1 (RP.of_RC (chk_iff.1 h.1) hx))
     have hs1 : Sat E { tm := upd st.tm t (.t (.c y)), sz := st.sz, hp := st.hp, nx := st.nx, wl := st.wl } β Z a w := ⟨hs.heap, fun d => by
       show RA β Z w (upd st.tm t (.t (.c y)) d) _
       by_cases e : d = t
       · subst e; rw [upd_same]; exact hy
       · rw [upd_ne _ _ e]; exact hs.tm d, hs.sz⟩
     obtain ⟨st', k1, k2, k3, k4⟩ := tmwAll_ok h.2.2 hs1
     exact ⟨st', k1, k2, k3, k4⟩
   · exact h.elim
theorem pre_code {c : Code} {f : St → (Exit → St → Prop) → Prop} (h : CodeOk P E c f) (l : St → List Nat) (k : St → List (Nat × Blk)) (m : St → List (Nat × CV)) (q : List (Nat × List Int)) : CodeOk P E c (fun st Q => wkAll (k st) (frzAllD (l st) st) fun st => tmwAll (m st) st fun st => csAll q st fun st => f st Q) := by
 intro st Q hf ro B0 β Z a w hs hm hro
 obtain ⟨Z', h1, h2, h3⟩ := frzAllD_ok (l := l st) hs
 obtain ⟨st0, j1, j2, j3, j4⟩ := wkAll_ok hf h1
 obtain ⟨st2, m1, m2, m3, m4⟩ := tmwAll_ok j1 j2
 obtain ⟨st1, k1, k2, k3, k4⟩ := csAll_ok m1 m2
 have t := ((h2.trans j3).trans m3).trans k3
 refine wpIn_mono (h st1 Q k1 ro B0 β Z' a w k2 (hm.turn t) hro) fun e a' w' hp => ?_
 obtain ⟨st', β', Z2, q1, q2, q3, q4, q5, q6⟩ := hp
 exact ⟨st', β', Z2, q1, q2, t.trans q3, q4.trans (k4.trans (m4.trans (j4.trans h3))), q5, q6⟩
theorem list_ok (hE : EnvOk P E) (hI : InlOk P E inl) (hIf : InlFn E inl) (hY : YldOk P E yld) (id : Nat) (ops : Array Oper) : CodeOk P E (.region id ops false) (fun st Q => vcOps E inl yld ops.toList ops.toList (fun _ => none) st (Q .normal)) := by
 intro st Q h ro B0 β Z a w hs hm _
 refine wpIn_region_list (ops_sound hE hI hIf hY (x0 := HS.of st β Z w) (sz := st.sz) (a0 := a) (K := Q .normal) (fun st' β' Z' a' w' hk hs' ht hsz hkeep hdef => ⟨st', β', Z', hk, hs', ht, hsz, fun t hw => hkeep t (fun o ho e => ?_), by rw [hdef]; exact hm.turn ht⟩)
   ops.toList (fun o h => h) (fun _ => none) st β Z a w h (fun d b h => by simp at h) hs (Turn.refl _) rfl (fun _ _ => rfl) rfl)
 simp only [writes, List.any_eq_false] at hw
 have := hw o ho
 rw [e] at this
 simp at this
theorem walk_ok (hE : EnvOk P E) (hI : InlOk P E inl) (hIf : InlFn E inl) (hY : YldOk P E yld) (hD : DrawOk P E inl yld) (fid : FuncId) (c : Code) : CodeOk P E c (walk E fid inl yld c) := by
 induction c with
 | skip => exact fun st Q h ro B0 β Z a w hs hm _ => wpIn_skip ⟨st, β, Z, h, hs, Turn.refl _, rfl, fun _ _ => rfl, hm⟩
 | label l => exact fun st Q h ro B0 β Z a w hs hm _ => wpIn_label ⟨st, β, Z, h, hs, Turn.refl _, rfl, fun _ _ => rfl, hm⟩
 | ret => exact fun st Q h ro B0 β Z a w hs hm _ => wpIn_ret ⟨st, β, Z, h, hs, Turn.refl _, rfl, fun _ _ => rfl, hm⟩
 | exit id => exact fun st Q h ro B0 β Z a w hs hm _ => wpIn_exit ⟨st, β, Z, h, hs, Turn.refl _, rfl, fun _ _ => rfl, hm⟩
 | goto l => exact fun st Q h => h.elim
 | scope c ih =>
   intro st Q h ro B0 β Z a w hs hm hro
   simp only [walk] at h
   refine wpIn_scope (wpIn_mono (ih _ _ h ro B0 β Z a w hs hm hro) fun e a1 w1 hp1 => ?_)
   obtain ⟨st1, β1, Z1, hq, hs1, ht1, hsz1, hk1, hm1⟩ := hp1
   cases e with
   | goto => exact hq.elim
   | normal => exact ⟨st1, β1, Z1, hq, hs1, ht1, hsz1, hk1, hm1⟩
   | exit => exact ⟨st1, β1, Z1, hq, hs1, ht1, hsz1, hk1, hm1⟩
   | ret => exact ⟨st1, β1, Z1, hq, hs1, ht1, hsz1, hk1, hm1⟩
   | panic => exact ⟨st1, β1, Z1, hq, hs1, ht1, hsz1, hk1, hm1⟩
   | outgrown => exact ⟨st1, β1, Z1, hq, hs1, ht1, hsz1, hk1, hm1⟩
 | refuse s => exact fun st Q h => h.elim
 | rangeFunc f ps asg body => exact range_ok hE hI hIf
 | loop c ih => exact loop_ok ih
 | region id ops draw =>
   cases draw with
   | true =>
     intro st Q h ro B0 β Z a w hs hm hro
     simp only [walk] at h
     refine pre_code (f := fun st Q => withBefores (fun bs => match (loose ops.toList bs && !(E.any fid id)) || E.every fid id with
       | true => vcAny E inl yld ops.toList ops.size 0 st (Q .normal)
       | false => (match orderly ops.toList bs with
         | true => vcDraw E inl yld ops.toList bs (E.old fid id st) ops.toList 0 st.nx 0 (fun _ => none) st (Q .normal)
         | false => False)) ops.toList []) (fun st Q h => ?_) (fun _ => E.frz fid id) (fun st => E.wk fid id st) (fun st => E.tmw fid id st) (E.cs fid id) st Q h ro B0 β Z a w hs hm hro
     obtain ⟨bs, h⟩ := withBefores_ok h
     split at h
     · exact hD.2 id ops st Q h
     · split at h
       · rename_i ho
         exact hD.1 id ops bs (E.old fid id) ho st Q h
       · exact h.elim
   | false =>
     intro st Q h ro B0 β Z a w hs hm hro
     exact pre_code (list_ok hE hI hIf hY id ops) (fun _ => E.frz fid id) (fun st => E.wk fid id st) (fun st => E.tmw fid id st) (E.cs fid id) st Q h ro B0 β Z a w hs hm hro
 | seq x y ihx ihy =>
   intro st Q h ro B0 β Z a w hs hm hro
   have wr : ∀ t, writes (.seq x y) t = false → writes x t = false ∧ writes y t = false := fun t h => by simpa [writes] using h
   simp only [walk] at h
   split at h
   · refine wpIn_seq (wpIn_mono (ihx _ _ h ro B0 β Z a w hs hm hro) fun e a1 w1 hp1 => ?_)
     obtain ⟨st1, β1, Z1, hq, hs1, ht1, hsz1, hk1, hm1⟩ := hp1
     cases e with
     | normal => exact wpIn_mono (ihy _ _ hq ro B0 β1 Z1 a1 w1 hs1 hm1 (hro.turn ht1)) fun e a2 w2 h2 => Post.then_ ht1 hsz1 hk1 h2 wr
     | exit => exact ⟨st1, β1, Z1, hq, hs1, ht1, hsz1, fun t h => hk1 t (wr t h).1, hm1⟩
     | ret => exact ⟨st1, β1, Z1, hq, hs1, ht1, hsz1, fun t h => hk1 t (wr t h).1, hm1⟩
     | goto => exact ⟨st1, β1, Z1, hq, hs1, ht1, hsz1, fun t h => hk1 t (wr t h).1, hm1⟩
     | panic => exact ⟨st1, β1, Z1, hq, hs1, ht1, hsz1, fun t h => hk1 t (wr t h).1, hm1⟩
     | outgrown => exact ⟨st1, β1, Z1, hq, hs1, ht1, hsz1, fun t h => hk1 t (wr t h).1, hm1⟩
   · rename_i A _
     obtain ⟨hx, hy⟩ := h
     have hs0 : Sat E { st with wl := [] } β Z a w := ⟨hs.heap, hs.tm, hs.sz⟩
     refine wpIn_seq (wpIn_mono (ihx _ _ hx ro B0 β Z a w hs0 hm hro) fun e a1 w1 hp1 => ?_)
     obtain ⟨st1, β1, Z1, hq, hs1, ht1, hsz1, hk1, hm1⟩ := hp1
     have T1 : Turn (HS.of st β Z w) ⟨β1, Z1, st1.hp, st1.nx, st1.wl ++ st.wl, w1⟩ :=
       ⟨ht1.ev, ht1.ext, ht1.own, ht1.zown, ht1.nx, fun n hn => List.mem_append.2 (.inr hn), fun n hn hw => ht1.frame n hn (fun hh => hw (List.mem_append.2 (.inl hh)))⟩
     have leave : ∀ {e : Exit}, Q e { st1 with wl := st1.wl ++ st.wl } → Post E B0 Q (.seq x y) (HS.of st β Z w) st.sz a e a1 w1 := fun hq =>
       ⟨{ st1 with wl := st1.wl ++ st.wl }, β1, Z1, hq, ⟨hs1.heap, hs1.tm, hs1.sz⟩, T1, hsz1, fun t h => hk1 t (wr t h).1, hm1⟩
     cases e with
     | normal =>
       obtain ⟨g, hok, hcome⟩ := hq
       have hcome2 := hcome
       obtain ⟨hchk, _, _⟩ := hcome2
       have hchk := chk_iff.1 hchk
       simp only [Bool.and_eq_true, List.all_eq_true, Bool.or_eq_true, List.any_eq_true] at hchk
       obtain ⟨_, hwl⟩ := hchk
       have kept : ∀ n, n < st.nx → n ∉ A.dom st → st1.hp n = st.hp n := fun n hn hnd => by
         have hnw : n ∉ st1.wl := fun hmem => by
           rcases hwl n hmem with h1 | ⟨x, hx, h1⟩
           · exact absurd (Nat.le_of_ble_eq_true h1) (by omega)
           · rw [Nat.eq_of_beq_eq_true h1] at hnd; exact hnd hx
         exact ht1.frame n hn hnw
       obtain ⟨β2, k1, k2⟩ := arrive (c := x) (st1 := st1) (a1 := a1) hs hs1.heap hs1.tm (by rw [hs1.sz, hsz1]) ht1.ev ht1.ext ht1.own ht1.zown kept hk1 hcome
       obtain ⟨m0, l, ml, mn, mr⟩ := hm1
       have hm2 : Marks B0 (HS.of (headSt A x st g) β2 Z1 w1) a1.defers := ⟨m0, l, ml, mn, fun r hr => by
         obtain ⟨q0, q1, q2, q3⟩ := mr r hr
         exact ⟨q0, q1, not_own_deferred k1.heap q1, q3⟩⟩
       have k2' : Turn (HS.of st β Z w) ⟨β2, Z1, (headSt A x st g).hp, st.nx + 16, A.dom st ++ st.wl, w1⟩ := k2
       refine wpIn_mono (ihy _ _ (hy g hok) ro B0 β2 Z1 a1 w1 k1 hm2 (hro.turn k2)) fun e a2 w2 h2 => ?_
       obtain ⟨st2, β3, Z3, z1, z2, z3, z4, z5, z6⟩ := h2
       have T3 : Turn ⟨β2, Z1, (headSt A x st g).hp, st.nx + 16, A.dom st ++ st.wl, w1⟩ ⟨β3, Z3, st2.hp, st2.nx, st2.wl ++ (A.dom st ++ st.wl), w2⟩ :=
         ⟨z3.ev, z3.ext, z3.own, z3.zown, z3.nx, fun n hn => List.mem_append.2 (.inr hn), fun n hn hw => z3.frame n hn (fun hh => hw (List.mem_append.2 (.inl hh)))⟩
       exact ⟨{ st2 with wl := st2.wl ++ (A.dom st ++ st.wl) }, β3, Z3, z1, ⟨z2.heap, z2.tm, z2.sz⟩, k2'.trans T3, z4, fun t h => (z5 t (wr t h).2).trans (hk1 t (wr t h).1), z6⟩
     | exit => exact leave hq
     | ret => exact leave hq
     | goto => exact leave hq
     | panic => exact leave hq
     | outgrown => exact leave hq
 | cond c x y ihx ihy =>
   intro st Q h ro B0 β Z a w hs hm hro
   have wr : ∀ t, writes (.cond c x y) t = false → writes x t = false ∧ writes y t = false := fun t h => by simpa [writes] using h
   have goT : walk E fid inl yld x st Q → a.eval c = .bool true → (Code.cond c x y).wpIn (Fn ro) 0 P (Post E B0 Q (.cond c x y) (HS.of st β Z w) st.sz a) a w := fun h hc =>
     wpIn_cond_true hc (wpIn_mono (ihx _ _ h ro B0 β Z a w hs hm hro) fun e a' w' hp => hp.mono (fun _ h => h) (fun t h => (wr t h).1))
   have goF : walk E fid inl yld y st Q → a.eval c = .bool false → (Code.cond c x y).wpIn (Fn ro) 0 P (Post E B0 Q (.cond c x y) (HS.of st β Z w) st.sz a) a w := fun h hc =>
     wpIn_cond_false hc (wpIn_mono (ihy _ _ h ro B0 β Z a w hs hm hro) fun e a' w' hp => hp.mono (fun _ h => h) (fun t h => (wr t h).2))
   cases c with
   | tmp c =>
     obtain ⟨_, t, h1, h2, _⟩ := split_ok h (hs.tm c) (fun d b h => by simp at h)
     cases t with
     | true => exact goT h1 h2
     | false => exact goF h1 h2
   | const v =>
     simp only [walk] at h
     split at h
     · rename_i hv; exact goT h (RC.lit (Z := Z) (w := w) hv)
     · rename_i hv; exact goF h (RC.lit (Z := Z) (w := w) hv)
     · exact h.elim
   | global g => exact h.elim
   | func f => exact h.elim
 | block id c ih =>
   intro st Q h ro B0 β Z a w hs hm hro
   refine wpIn_block (wpIn_mono (ih _ _ h ro B0 β Z a w hs hm hro) fun e a1 w1 hp1 => ?_)
   obtain ⟨st1, β1, Z1, hq, hs1, ht1, hsz1, hk1, hm1⟩ := hp1
   cases e with
   | exit id' =>
     simp only [Exit.inBlock]
     simp only at hq
     split at hq
     · rename_i hb
       rw [if_pos (Nat.eq_of_beq_eq_true hb)]
       exact ⟨st1, β1, Z1, hq, hs1, ht1, hsz1, hk1, hm1⟩
     · rename_i hb
       rw [if_neg (fun e => by subst e; rw [Nat.beq_refl] at hb; simp at hb)]
       exact ⟨st1, β1, Z1, hq, hs1, ht1, hsz1, hk1, hm1⟩
   | normal => exact ⟨st1, β1, Z1, hq, hs1, ht1, hsz1, hk1, hm1⟩
   | ret => exact ⟨st1, β1, Z1, hq, hs1, ht1, hsz1, hk1, hm1⟩
   | goto => exact ⟨st1, β1, Z1, hq, hs1, ht1, hsz1, hk1, hm1⟩
   | panic => exact ⟨st1, β1, Z1, hq, hs1, ht1, hsz1, hk1, hm1⟩
   | outgrown => exact ⟨st1, β1, Z1, hq, hs1, ht1, hsz1, hk1, hm1⟩
theorem vc_ok (hE : EnvOk P E) (hD : ∀ inl yld, InlOk P E inl → InlFn E inl → YldOk P E yld → DrawOk P E inl yld) : ∀ (fuel : Nat) (fid : FuncId) (c : Code), CodeOk P E c (vc E fuel fid c)
 | 0, _, _ => fun _ _ h => h.elim
 | fuel + 1, fid, c => walk_ok hE (inl_ok hE (vc_ok hE hD fuel)) inl_fn (yld_ok (vc_ok hE hD fuel)) (hD _ _ (inl_ok hE (vc_ok hE hD fuel)) inl_fn (yld_ok (vc_ok hE hD fuel))) fid c
theorem fit1_ok {B : Nat} {Fr : Nat → Prop} (h : SatH E B Fr β Z hp w) {x y : TV} {v : Value} (hf : fit1 hp x y) (hx : RT β Z w x v) {l : List Nat} (hl : ∀ n, n ∈ ownTV x → n ∈ l) : RT β' (Zargs β Z hp l) w y v := by
 unfold fit1 at hf
 split at hf
 · rename_i x' hx'
   exact fitTV_ok (β1 := β') named_bad hf (pureTV_ok h (fun _ _ h => h) hx hl hx')
 · exact hf.elim
theorem fitAll_ok {B : Nat} {Fr : Nat → Prop} (h : SatH E B Fr β Z hp w) {l : List Nat} : ∀ {xs : List TV} {rs : List RV}, fitAll hp xs rs → (∀ n, n ∈ ownTVs xs → n ∈ l) → ownCount rs = 0 ∧ resHp (fun _ => none) rs 0 = (fun _ => none) ∧ xs.length = (resTVs rs 0).length ∧
   ∀ (i : Nat) (x y : TV) (v : Value), xs[i]? = some x → (resTVs rs 0)[i]? = some y → RT β Z w x v → RT β' (Zargs β Z hp l) w y v
 | [], [], _, _ => ⟨rfl, rfl, rfl, fun i x y v h => by simp at h⟩
 | [], .v _ :: _, h, _ => h.elim
 | [], .own _ _ _ _ :: _, h, _ => h.elim
 | _ :: _, [], h, _ => h.elim
 | _ :: _, .own _ _ _ _ :: _, h, _ => h.elim
 | x :: xs, .v y :: rs, hf, hl => by
   obtain ⟨h1, h2, h3, h4⟩ := fitAll_ok h hf.2 (fun n hn => hl n (by simp [ownTVs, hn]))
   refine ⟨h1, h2, by simp [resTVs, h3], fun i x' y' v hx hy hr => ?_⟩
   cases i with
   | zero =>
     simp [resTVs] at hx hy
     subst hx; subst hy
     exact fit1_ok h hf.1 hr (fun n hn => hl n (by simp [ownTVs, hn]))
   | succ i =>
     simp [resTVs] at hx hy
     exact h4 i x' y' v hx hy hr
theorem callQ_of (hE : EnvOk P E) (hD : ∀ inl yld, InlOk P E inl → InlFn E inl → YldOk P E yld → DrawOk P E inl yld) {fuel : Nat} {f : FuncId} {args : List TV} {rs : List RV}
   (h : inlOf E (vc E fuel) f args (fun _ => none) 0 [] (fun v hp _ _ => resFit hp v rs)) : CallQ P E f args rs := by
 intro Z w vs hsat hr
 let x : HS := ⟨fun _ => .no, Z, fun _ => none, 0, [], w⟩
 have xok : x.ok E := hsat.weaken (fun _ _ => trivial)
 refine CallsIn.mono (inl_ok hE (vc_ok hE hD fuel) f args x _ h xok vs hr) fun e w' hpost => ?_
 obtain ⟨val, v, y, rfl, hk, rfl, yok, yv, yt⟩ := hpost
 have noOwn : ∀ b, ¬ Own x.β x.hp b := fun b ⟨n, blk, ln, h, _⟩ => by simp [x] at h
 have evy : Evo (fun _ => False) Z w y.Z y.w := yt.ev.weaken (fun b h => (noOwn b h).elim)
 have pureCase : ∀ (l : List Nat), ownCount rs = 0 → resHp (fun _ => none) rs 0 = (fun _ => none) → RA (fun _ => .no) (Zargs y.β y.Z y.hp l) y.w (resAV (resTVs rs 0)) val →
     ∃ val' β' Z', Ending.returned val = .returned val' ∧ SatH E 0 (fun n => ownCount rs ≤ n) β' Z' (resHp (fun _ => none) rs 0) y.w ∧ RA β' Z' y.w (resAV (resTVs rs 0)) val' ∧
     Evo (fun _ => False) Z w Z' y.w ∧ (∀ b, Own β' (resHp (fun _ => none) rs 0) b → w.heap.size ≤ b) ∧ (∀ b, Z' b → Z b ∨ w.heap.size ≤ b) := by
   intro l h0 h1 h2
   have hz : ∀ b, y.Z b → Zargs y.β y.Z y.hp l b := fun b hb => .inl hb
   refine ⟨val, fun _ => .no, Zargs y.β y.Z y.hp l, rfl, ?_, h2, ⟨evy.os, evy.tape, evy.output, evy.size, evy.same, evy.rows, evy.loops, fun b hb => hz b (evy.zmono b hb)⟩, fun b hb => ?_, fun b hb => ?_⟩
   · rw [h1]
     exact ⟨fun n blk h => by simp at h, fun n blk b ln h => by simp at h, fun n m x y b l1 l2 h => by simp at h, fun b hb => Zargs.lt yok b hb, fun _ _ => rfl, yok.gl.mono (own := fun _ => False) (Evo.zup hz) (fun b hb => ⟨yok.zlt b hb, fun h => h⟩)⟩
   · rw [h1] at hb
     obtain ⟨n, blk, ln, h, _⟩ := hb
     simp at h
   · rcases hb with hb | ⟨n, blk, ln, _, h3, h4⟩
     · rcases yt.zown b hb with h | h | h
       · exact .inl h
       · exact (noOwn b h).elim
       · exact .inr h
     · rcases yt.own b ⟨n, blk, ln, h3, h4⟩ with h | h
       · exact (noOwn b h).elim
       · exact .inr h
 have many : isTup v (fun l => fitAll y.hp l rs) → (resTVs rs 0).length ≠ 1 → ∃ val' β' Z', Ending.returned val = .returned val' ∧ SatH E 0 (fun n => ownCount rs ≤ n) β' Z' (resHp (fun _ => none) rs 0) y.w ∧ RA β' Z' y.w (resAV (resTVs rs 0)) val' ∧
     Evo (fun _ => False) Z w Z' y.w ∧ (∀ b, Own β' (resHp (fun _ => none) rs 0) b → w.heap.size ≤ b) ∧ (∀ b, Z' b → Z b ∨ w.heap.size ≤ b) := by
   intro hk hne
   cases v with
   | tup l =>
     obtain ⟨h1, h2, h3, h4⟩ := fitAll_ok (β' := fun _ => .no) (l := ownTVs l) yok hk (fun n hn => hn)
     obtain ⟨us, rfl, u1, u2⟩ := yv
     refine pureCase (ownTVs l) h1 h2 ?_
     have : resAV (resTVs rs 0) = .tup (resTVs rs 0) := by
       match hh : resTVs rs 0, hne with
       | [], _ => rfl
       | [_], hne => simp at hne
       | _ :: _ :: _, _ => rfl
     rw [this]
     refine ⟨us, rfl, by rw [u1, h3], fun i y' hy' => ?_⟩
     have hlt : i < l.length := by rw [h3]; exact (List.getElem?_eq_some_iff.1 hy').1
     obtain ⟨u, hu, hr⟩ := u2 i l[i] (by simp [hlt])
     exact ⟨u, hu, h4 i l[i] y' u (by simp [hlt]) hy' hr⟩
   | any => exact hk.elim
   | t => exact hk.elim
 have four : (∃ y0, rs = [.v y0]) ∨ (∃ e size len get, rs = [.own e size len get]) ∨ (∃ e size len get y0, rs = [.own e size len get, .v (.c y0)]) ∨ ((resTVs rs 0).length ≠ 1 ∧ resFit y.hp v rs = isTup v (fun l => fitAll y.hp l rs)) := by
   match rs with
   | [] => exact .inr (.inr (.inr ⟨by simp [resTVs], rfl⟩))
   | [.v y0] => exact .inl ⟨y0, rfl⟩
   | [.own e s l g] => exact .inr (.inl ⟨e, s, l, g, rfl⟩)
   | [.own e s l g, .v (.c z)] => exact .inr (.inr (.inl ⟨e, s, l, g, z, rfl⟩))
   | [.own _ _ _ _, .v (.a _ _)] => exact .inr (.inr (.inr ⟨by simp [resTVs], rfl⟩))
   | .own _ _ _ _ :: .v t :: _ :: _ => exact .inr (.inr (.inr ⟨by simp [resTVs], by cases t <;> rfl⟩))
   | .own _ _ _ _ :: .own _ _ _ _ :: _ => exact .inr (.inr (.inr ⟨by simp [resTVs], rfl⟩))
   | .v _ :: b :: _ => exact .inr (.inr (.inr ⟨by cases b <;> simp [resTVs], by cases b <;> rfl⟩))
 have ownCase : ∀ (e : TypeId) (size len : Nat) (get : Nat → Nat → CV) (l : Loc), resHp (fun _ => none) rs 0 = upd (fun _ => none) 0 (some (.row e size len get)) → ownCount rs = 1 → RB y.β y.Z y.w l (.row e size len get) → (∀ b ln, l = .at b ln → b < y.w.heap.size ∧ ¬ y.Z b ∧ w.heap.size ≤ b) →
     (∀ β' : Nat → Loc, β' 0 = l → RA β' y.Z y.w (resAV (resTVs rs 0)) val) →
     ∃ val' β' Z', Ending.returned val = .returned val' ∧ SatH E 0 (fun n => ownCount rs ≤ n) β' Z' (resHp (fun _ => none) rs 0) y.w ∧ RA β' Z' y.w (resAV (resTVs rs 0)) val' ∧
     Evo (fun _ => False) Z w Z' y.w ∧ (∀ b, Own β' (resHp (fun _ => none) rs 0) b → w.heap.size ≤ b) ∧ (∀ b, Z' b → Z b ∨ w.heap.size ≤ b) := by
   intro e size len get l hhp hcnt hrb hl hv
   rw [hhp, hcnt]
   have hpget : ∀ n blk, upd (fun _ => none) 0 (some (Blk.row e size len get)) n = some blk → n = 0 ∧ blk = .row e size len get := fun n blk hn => by
     by_cases e0 : n = 0
     · subst e0; rw [upd_same] at hn; simp at hn; exact ⟨rfl, hn.symm⟩
     · rw [upd_ne _ _ e0] at hn; simp at hn
   refine ⟨val, upd (fun _ => .no) 0 l, y.Z, rfl, ⟨fun n blk hn => ?_, fun n blk b ln hn hb => ?_, fun n m x1 y1 b l1 l2 hn hm _ _ => by rw [(hpget n _ hn).1, (hpget m _ hm).1], yok.zlt, fun n (hn : 1 ≤ n) => upd_ne _ _ (by omega), yok.gl⟩, hv _ (upd_same ..), evy, fun b hb => ?_, fun b hb => ?_⟩
   · obtain ⟨rfl, rfl⟩ := hpget n blk hn
     rw [upd_same]
     cases l with
     | no => exact hrb.elim
     | virt => exact hrb
     | «at» b ln => exact hrb
   · obtain ⟨rfl, rfl⟩ := hpget n blk hn
     rw [upd_same] at hb
     obtain ⟨q1, q2, _⟩ := hl b ln hb
     exact ⟨q1, q2, Nat.zero_le _⟩
   · obtain ⟨n, blk, ln, hn, hb⟩ := hb
     obtain ⟨rfl, rfl⟩ := hpget n blk hn
     rw [upd_same] at hb
     exact (hl b ln hb).2.2
   · rcases yt.zown b hb with h | h | h
     · exact .inl h
     · exact (noOwn b h).elim
     · exact .inr h
 have ownAt : ∀ (x0 : TV) (v0 : Value) (e : TypeId) (size len : Nat) (get : Nat → Nat → CV), fitOwn y.hp x0 e size len get → RT y.β y.Z y.w x0 v0 →
     ∃ l, RB y.β y.Z y.w l (.row e size len get) ∧ (∀ b ln, l = .at b ln → b < y.w.heap.size ∧ ¬ y.Z b ∧ w.heap.size ≤ b) ∧ ROs y.w l size len v0 := by
   intro x0 v0 e size len get hk' yv
   unfold fitOwn at hk'
   split at hk'
   · rename_i n s l
     obtain ⟨h1, rfl, h2⟩ := hk'
     obtain rfl := Nat.eq_of_beq_eq_true (chk_iff.1 h1)
     split at h2
     · rename_i b hb
       refine ⟨y.β n, fitBlk_ok named_bad h2 (yok.rb n b hb), fun b' ln hb' => ?_, yv⟩
       obtain ⟨g1, g2, _⟩ := yok.own n b b' ln hb hb'
       refine ⟨g1, g2, ?_⟩
       rcases yt.own b' ⟨n, b, ln, hb, hb'⟩ with h | h
       · exact (noOwn b' h).elim
       · exact h
     · exact h2.elim
   · subst hk'
     exact ⟨.virt, rfl, fun b ln h => by simp at h, yv, rfl⟩
   · exact hk'.elim
 rcases four with ⟨y0, rfl⟩ | ⟨e, size, len, get, rfl⟩ | ⟨e, size, len, get, y0, rfl⟩ | ⟨h1, h2⟩
 · cases v with
   | t x0 => exact pureCase (ownTV x0) rfl rfl (fit1_ok yok hk yv (fun n hn => hn))
   | any => exact hk.elim
   | tup => exact hk.elim
 · cases v with
   | any => exact hk.elim
   | tup => exact hk.elim
   | t x0 =>
     obtain ⟨l, a1, a2, a3⟩ := ownAt x0 val e size len get hk yv
     exact ownCase e size len get l rfl rfl a1 a2 (fun β' hb => by
       show ROs y.w (β' 0) size len val
       rw [hb]; exact a3)
 · cases v with
   | any => exact hk.elim
   | t x0 => exact hk.elim
   | tup l0 =>
     match l0, hk, yv with
     | [x0, .c z], hk, yv =>
       obtain ⟨k1, k2, k3, k4⟩ := hk
       obtain ⟨vs, rfl, hsz, hvs⟩ := yv
       obtain ⟨u0, g0, r0⟩ := hvs 0 x0 rfl
       obtain ⟨u1, g1, r1⟩ := hvs 1 (.c z) rfl
       obtain ⟨l, a1, a2, a3⟩ := ownAt x0 u0 e size len get k1 r0
       refine ownCase e size len get l rfl rfl a1 a2 (fun β' hb => ⟨vs, rfl, hsz, fun i x hx => ?_⟩)
       match i, hx with
       | 0, hx =>
         obtain rfl : TV.c (.os 0 size len) = x := by simpa [resTVs] using hx
         refine ⟨u0, g0, ?_⟩
         show ROs y.w (β' 0) size len u0
         rw [hb]; exact a3
       | 1, hx =>
         obtain rfl : TV.c y0 = x := by simpa [resTVs] using hx
         exact ⟨u1, g1, RC.of_RP (fitP_ok k4 (flat_any (β' := β') (w' := y.w) (Z' := y.Z) (chk_iff.1 k2) r1).2)⟩
       | i + 2, hx => simp [resTVs] at hx
     | [], hk, _ => exact hk.elim
     | [_], hk, _ => exact hk.elim
     | [_, .a _ _], hk, _ => exact hk.elim
     | _ :: .c _ :: _ :: _, hk, _ => exact hk.elim
     | _ :: .a _ _ :: _ :: _, hk, _ => exact hk.elim
 · rw [h2] at hk
   exact many hk h1
end
end Go.Sx
namespace Go.Sx
section
variable {P : Program} {E : Env} {inl : CallVC} {yld : YieldVC} {ops : Array Oper} {bs : List Nat} {W : List (Nat × List Nat)}
theorem exists_least {p : Nat → Prop} : ∀ (k : Nat), p k → ∃ j, j ≤ k ∧ p j ∧ ∀ i, i < j → ¬ p i := by
 intro k
 induction k using Nat.strongRecOn with
 | _ k ih =>
   intro hk
   by_cases h : ∃ i, i < k ∧ p i
   · obtain ⟨i, hi, hp⟩ := h
     obtain ⟨j, h1, h2, h3⟩ := ih i hi hp
     exact ⟨j, by omega, h2, h3⟩
   · exact ⟨k, Nat.le_refl _, hk, fun i hi hp => h ⟨i, hi, hp⟩⟩
theorem ready_ex (hsd : sound ops.toList bs = true) {listed : Array Bool} (hsz : listed.size = ops.size) {k : Nat} (hk : k < ops.size) (hun : listed.getD k false = false) : ∃ i, i ≤ k ∧ i ∈ Region.ready .any ops listed := by
 obtain ⟨i, h1, h2, h3⟩ := exists_least (p := fun k => listed.getD k false = false) k hun
 have ho : ops[i]? = some ops[i] := by simp
 refine ⟨i, h1, ready_iff.2 ⟨ops[i], ho, getD_ft (by omega) h2, fun e he hb => ?_⟩⟩
 have hlt := (sound_ok hsd (i := i) (o := ops[i]) (by simp)).2.1 e he hb
 have := h3 e.on hlt
 simpa using this
section
variable {s b : Nat} {sts : Nat → St} {runs : Nat → Bool} {vs : Nat → AV} {ds : Nat → Option (Nat × Option Blk)} {β0 : Nat → Loc} {Z0 : Nat → Prop} {a0 : Act} {w0 : World}
theorem stretch_run (hst : Stretch P E ops.toList bs W s b sts runs vs ds) (hssa : ssa ops.toList bs = true) (hsd : sound ops.toList bs = true) (h0 : Sat E (sts s) β0 Z0 a0 w0) (hbar : b = ops.size ∨ isBar bs b = true) {ro : Option Nat} {Q : Exit → Act → World → Prop}
   (hEnd : ∀ (fuel : Nat) (listed : Array Bool) (a : Act) (w : World) (β : Nat → Loc) (Z : Nat → Prop), Mid E ops.toList bs s b sts vs ds β0 Z0 a0 w0 listed a w β Z → (∀ k, k < b → listed.getD k false = true) → unl listed ops.size ≤ fuel → wpAnyIn (Fn ro) 0 P .any ops Q fuel listed a w) :
   ∀ (fuel : Nat) (listed : Array Bool) (a : Act) (w : World) (β : Nat → Loc) (Z : Nat → Prop), Mid E ops.toList bs s b sts vs ds β0 Z0 a0 w0 listed a w β Z → unl listed ops.size ≤ fuel → wpAnyIn (Fn ro) 0 P .any ops Q fuel listed a w := by
 intro fuel
 induction fuel with
 | zero =>
   intro listed a w β Z hm hu
   have hsz : listed.size = ops.size := by rw [hm.size]; simp
   have hb : b ≤ ops.size := by simpa using hst.len
   exact hEnd 0 listed a w β Z hm (fun k hk => getD_tt (by omega) (unl_zero (k := ops.size) (by omega) k (by omega))) hu
 | succ fuel ih =>
   intro listed a w β Z hm hu
   have hsz : listed.size = ops.size := by rw [hm.size]; simp
   have hb : b ≤ ops.size := by simpa using hst.len
   by_cases hall : ∀ k, k < b → listed.getD k false = true
   · exact hEnd _ listed a w β Z hm hall hu
   · refine ⟨fun hnil => ?_, fun i hi => ?_⟩
     · exfalso
       apply hall
       intro k hk
       cases h : listed.getD k false with
       | true => rfl
       | false =>
         obtain ⟨i, _, hi⟩ := ready_ex hsd hsz (by omega : k < ops.size) h
         rw [hnil] at hi; simp at hi
     · obtain ⟨o, ho, hun, hrd⟩ := ready_iff.1 hi
       obtain ⟨hunF, hilt⟩ := getD_tf hun
       have hin : i < ops.size := by omega
       have hoL : ops.toList[i]? = some o := by simpa using ho
       obtain ⟨sd1, _, sd3⟩ := sound_ok hsd hoL
       have before : ∀ k, (bs.getD i 0).testBit k = true → listed.getD k false = true := fun k hk => by
         obtain ⟨e, he, hbd, h⟩ := sd3 k (sd1 k hk) hk
         rcases h with rfl | h
         · exact hrd e he hbd
         · exact hm.closed e.on (hrd e he hbd) k h
       have hlen : bs.length = ops.size := by
         simp only [sound, Bool.and_eq_true] at hsd
         rw [Nat.eq_of_beq_eq_true hsd.1]; simp
       have his : s ≤ i := by
         apply Nat.le_of_not_lt; intro h
         rw [hm.lo i h] at hunF; simp at hunF
       have hib : i < b := by
         apply Nat.lt_of_not_le
         intro hle
         rcases hbar with hbar | hbar
         · omega
         · obtain ⟨b1, b2⟩ := bar_ok hbar
           by_cases e : i = b
           · subst e
             exact hall fun k hk => before k (b1 k hk)
           · have := before b (b2 i (by omega) (by omega))
             rw [hm.hi b (Nat.le_refl _)] at this; simp at this
       refine mid_step hst hssa hsd h0 hm his hib ho hun hrd fun a' w' β' Z' hm' => ih _ a' w' β' Z' hm' ?_
       have := unl_set (l := listed) (i := i) hilt hun ops.size
       rw [if_pos hin] at this
       omega
end
theorem knT_keep {kn : Nat → Option Bool} {tm : Nat → AV} (h : KnT kn tm) : KnT (knKeep E kn) tm := by
 unfold knKeep
 cases E.keep with
 | true => exact h
 | false => exact fun d t hd => by simp at hd
theorem knT_next {kn : Nat → Option Bool} {st : St} (h : KnT kn st.tm) (dst : Option Nat) (v : AV) (hp : Hp) (nx : Nat) (wl : List Nat) : KnT (forget kn dst) (st.next dst v hp nx wl).tm := by
 intro d t hd
 cases dst with
 | none => exact h d t hd
 | some e =>
   simp only [forget, St.next] at hd ⊢
   by_cases c : d = e
   · subst c; rw [upd_same] at hd; cases hd
   · rw [upd_ne _ _ c] at hd ⊢; exact h d t hd
theorem step_next {dst : Option Nat} {p : Plan} {st : St} {K Q : St → Prop} (hQ : ∀ v hp nx wl, Q (st.next dst v hp nx wl)) (h : vcStep E inl yld dst p st K) : vcStep E inl yld dst p st (fun st' => K st' ∧ Q st') := by
 have e : ∀ v hp nx wl, (K (st.next dst v hp nx wl) ∧ Q (st.next dst v hp nx wl)) = K (st.next dst v hp nx wl) := fun v hp nx wl => propext ⟨And.left, fun h => ⟨h, hQ v hp nx wl⟩⟩
 unfold vcStep at h ⊢
 simp only [e]
 exact h
theorem split_mono {kn : Nat → Option Bool} {d : Nat} {x : AV} {K K' : (Nat → Option Bool) → Bool → Prop} {tm : Nat → AV} (hx : x = tm d) (hk : KnT kn tm) (hm : ∀ kn' t, KnT kn' tm → K kn' t → K' kn' t) (h : split kn d x K) : split kn d x K' := by
 have up : ∀ t, truth (tm d) = some t → KnT (upd kn d (some t)) tm := fun t ht e b he => by
   by_cases c : e = d
   · subst c; rw [upd_same] at he; injection he with he; subst he; exact ht
   · rw [upd_ne _ _ c] at he; exact hk e b he
 unfold split at h ⊢
 split at h
 · exact hm _ _ hk h
 · split at h
   · exact hm _ _ hk h
   · exact hm _ _ hk h
   · rename_i b
     refine ⟨fun hb => hm _ _ (up true ?_) (h.1 hb), fun hb => hm _ _ (up false ?_) (h.2 hb)⟩
     · rw [← hx, hb]; rfl
     · rw [← hx, hb]; rfl
   · exact h.elim
theorem knT_frz {kn : Nat → Option Bool} {l : List Nat} : ∀ {st : St}, KnT kn st.tm → KnT kn (frzAll l st).tm := by
 induction l with
 | nil => intro st h; exact h
 | cons t l ih =>
   intro st h
   refine ih (st := frzOne t st) fun d b hb => ?_
   have h0 := h d b hb
   unfold frzOne
   split
   · rename_i n sz ln htm
     split
     · split
       · show truth (upd st.tm t _ d) = some b
         by_cases e : d = t
         · subst e; rw [htm] at h0; cases h0
         · rw [upd_ne _ _ e]; exact h0
       · exact h0
     · exact h0
   · exact h0
theorem one_kn {kn : Nat → Option Bool} {o : Oper} {st : St} {K : (Nat → Option Bool) → St → Prop} (h : vcOne E inl yld kn o st K) (hk : KnT kn st.tm) : vcOne E inl yld kn o st (fun kn' st' => K kn' st' ∧ KnT kn' st'.tm) := by
 unfold vcOne at h ⊢
 cases hh : st.has o.dst with
 | false => rw [hh] at h; exact h.elim
 | true =>
   rw [hh] at h
   simp only at h ⊢
   split at h
   · rename_i c x y hop
     exact split_mono rfl hk (fun kn' t hk' hK => ⟨hK, knT_next hk' _ _ _ _ _⟩) h
   · exact step_next (Q := fun st' => KnT (forget kn o.dst) st'.tm) (fun v hp nx wl => knT_next (knT_frz hk) _ _ _ _ _) h
   · cases e : E.pz o.dst with
     | nil =>
       simp only [e] at h
       exact step_next (Q := fun st' => KnT (forget kn o.dst) st'.tm) (fun v hp nx wl => knT_next hk _ _ _ _ _) h
     | cons t l =>
       simp only [e] at h
       exact step_next (Q := fun st' => KnT (forget kn o.dst) st'.tm) (fun v hp nx wl => knT_next (knT_frz hk) _ _ _ _ _) h
theorem draw_go (hE : EnvOk P E) (hI : InlOk P E inl) (hIf : InlFn E inl) (hY : YldOk P E yld) (hssa : ssa ops.toList bs = true) (hsd : sound ops.toList bs = true) {K : St → Prop} {ro : Option Nat} {Q : Exit → Act → World → Prop} {x0 : HS} {sz : Nat} {a0 : Act}
   (hK : ∀ st' β' Z' a' w', K st' → Sat E st' β' Z' a' w' → Turn x0 (HS.of st' β' Z' w') → st'.sz = sz → (∀ t, (∀ o ∈ ops.toList, o.dst ≠ some t) → a'.tmps.getD t undef = a0.tmps.getD t undef) → a'.defers = a0.defers → Q .normal a' w') :
   ∀ (m s : Nat), s ≤ ops.size → ops.size - s ≤ m → ∀ (kn : Nat → Option Bool) (st : St) (β : Nat → Loc) (Z : Nat → Prop) (a : Act) (w : World) (listed : Array Bool) (fuel : Nat), vcDraw E inl yld ops.toList bs W (ops.toList.drop s) s st.nx s kn st K → KnT kn st.tm → Sat E st β Z a w →
     Turn x0 (HS.of st β Z w) → st.sz = sz → (∀ t, (∀ o ∈ ops.toList, o.dst ≠ some t) → a.tmps.getD t undef = a0.tmps.getD t undef) → a.defers = a0.defers → listed.size = ops.size → (∀ k, k < s → listed.getD k false = true) → (∀ k, s ≤ k → listed.getD k false = false) →
     unl listed ops.size ≤ fuel → wpAnyIn (Fn ro) 0 P .any ops Q fuel listed a w := by
 intro m
 induction m with
 | zero =>
   intro s hs hsm kn st β Z a w listed fuel h hkn hsat ht hsz hkeep hdef hls hlo hhi hfu
   have : s = ops.size := by omega
   have hd : ops.toList.drop s = [] := by simp; omega
   rw [hd] at h
   have hQ := hK st β Z a w h hsat ht hsz hkeep hdef
   refine wpAnyIn_done ?_ hQ fuel
   cases hr : Region.ready .any ops listed with
   | nil => rfl
   | cons i l =>
     obtain ⟨o, ho, hun, _⟩ := ready_iff.1 (by rw [hr]; simp : i ∈ Region.ready .any ops listed)
     obtain ⟨h1, h2⟩ := getD_tf hun
     rw [hlo i (by omega)] at h1; simp at h1
 | succ m ih =>
   intro s hs hsm kn st β Z a w listed fuel h hkn hsat ht hsz hkeep hdef hls hlo hhi hfu
   have free : ∀ n, st.nx ≤ n → st.hp n = none := fun n hn => not_known hsat.heap (hsat.heap.fresh n hn)
   obtain ⟨b, sts, runs, vs, ds, q1, q2, q3, q4, q5, q6⟩ := extract (P := P) hE hI _ s rfl (by simpa using hs) kn st h hkn free
   subst q3
   have hst : Stretch P E ops.toList bs W s b sts runs vs ds := ⟨q1, q2, q4, q5⟩
   have hb : b ≤ ops.size := by simpa using q2
   have hcl : ∀ k, listed.getD k false = true → ∀ j, (bs.getD k 0).testBit j = true → listed.getD j false = true := fun k hk j hj => by
     have hks : k < s := by
       apply Nat.lt_of_not_le; intro hle
       rw [hhi k hle] at hk; simp at hk
     have hko : ops.toList[k]? = some ops[k] := by simp
     have := (sound_ok hsd hko).1 j hj
     exact hlo j (by omega)
   have hmid := mid_start hst hsat (by simpa using hls) hlo hhi hcl
   refine stretch_run hst hssa hsd hsat (q6.elim (fun h => .inl (by simpa using h.1)) (fun ⟨_, _, h, _⟩ => .inr h)) (fun fuel listed' a' w' β' Z' hm hall hfu' => ?_) fuel listed a w β Z hmid hfu
   obtain ⟨e1, e2, e3⟩ := mid_end hst hssa hsat hm hall
   have hszb := (hst.nx (k := b) q1 (Nat.le_refl _)).2.2
   have T := ht.trans e2
   have hls' : listed'.size = ops.size := by rw [hm.size]; simp
   have keep' : ∀ t, (∀ o ∈ ops.toList, o.dst ≠ some t) → a'.tmps.getD t undef = a0.tmps.getD t undef := fun t h => (e3 t h).trans (hkeep t h)
   have def' : a'.defers = a0.defers := hm.df.trans hdef
   rcases q6 with ⟨hbn, hk⟩ | ⟨o, ho, hbar, kn1, hkn1, hvc⟩
   · have hQ := hK (sts b) β' Z' a' w' hk e1 T (hszb.trans hsz) keep' def'
     refine wpAnyIn_done ?_ hQ fuel
     cases hr : Region.ready .any ops listed' with
     | nil => rfl
     | cons i l =>
       obtain ⟨o, ho, hun, _⟩ := ready_iff.1 (by rw [hr]; simp : i ∈ Region.ready .any ops listed')
       obtain ⟨h1, h2⟩ := getD_tf hun
       have hbn' : b = ops.size := by simpa using hbn
       rw [hall i (by omega)] at h1; simp at h1
   · have hblt : b < ops.size := by
       have := (List.getElem?_eq_some_iff.1 ho).1
       simpa using this
     have hunb : listed'.getD b false = false := hm.hi b (Nat.le_refl _)
     have hob : ops[b]? = some o := by simpa using ho
     have hdrop : ops.toList.drop b = o :: ops.toList.drop (b + 1) := by
       rw [List.drop_eq_getElem_cons (by simpa using hblt)]
       congr 1
       have := (List.getElem?_eq_some_iff.1 ho).2
       exact this
     have hub : unl (listed'.setIfInBounds b true) ops.size + 1 = unl listed' ops.size := by
       have := unl_set (l := listed') (i := b) (by omega) (getD_ft (by omega) hunb) ops.size
       rw [if_pos hblt] at this
       exact this
     cases fuel with
     | zero => omega
     | succ fuel =>
       refine ⟨fun hnil => ?_, fun i hi => ?_⟩
       · obtain ⟨i, _, hi⟩ := ready_ex hsd hls' hblt hunb
         rw [hnil] at hi; simp at hi
       · obtain ⟨oi, hoi, hun, hrd⟩ := ready_iff.1 hi
         obtain ⟨hunF, hilt⟩ := getD_tf hun
         have hib : i = b := by
           by_cases e1' : i < b
           · rw [hall i e1'] at hunF; simp at hunF
           · by_cases e2' : i = b
             · exact e2'
             · exfalso
               have hlen : bs.length = ops.size := by
                 simp only [sound, Bool.and_eq_true] at hsd
                 rw [Nat.eq_of_beq_eq_true hsd.1]; simp
               have hbit := (bar_ok hbar).2 i (by omega) (by omega)
               have hoL : ops.toList[i]? = some oi := by simpa using hoi
               obtain ⟨sd1, _, sd3⟩ := sound_ok hsd hoL
               have : listed'.getD b false = true := by
                 obtain ⟨ed, he, hbd, h⟩ := sd3 b (sd1 b hbit) hbit
                 rcases h with h | h
                 · rw [← h]; exact hrd ed he hbd
                 · exact hm.closed ed.on (hrd ed he hbd) b h
               rw [hunb] at this; simp at this
         subst hib
         rw [hob] at hoi; injection hoi with hoi; subst hoi
         have lo' : ∀ k, k < i + 1 → (listed'.setIfInBounds i true).getD k false = true := fun k hk => by
           rw [getD_set' (by omega)]
           by_cases e : k = i
           · rw [if_pos e]
           · rw [if_neg e]; exact hall k (by omega)
         have hi' : ∀ k, i + 1 ≤ k → (listed'.setIfInBounds i true).getD k false = false := fun k hk => by
           rw [getD_set' (by omega), if_neg (by omega)]; exact hm.hi k (by omega)
         rw [hdrop] at hvc
         simp only [vcDraw] at hvc
         obtain ⟨kn2, run, h1, h2, h3⟩ := guard_abs hvc hkn1
         have hmem : o ∈ ops.toList := List.mem_of_getElem? ho
         have hwant : Region.wanted o (yielded ops a'.tmps) = run := by
           rcases h3 with ⟨hg, hr⟩ | ⟨j, want, d, t, hg, hd, htt, hr⟩ | ⟨j, want, d, hg, hd, htt, hr⟩
           · rw [hr]; simp [Region.wanted, hg]
           · rw [hr]; exact wanted_of hg hd (truth_ok (e1.tm d) htt)
           · have hb := e1.tm d
             rw [htt] at hb
             rw [hr]; exact wanted_skip hg hd (ra_skip_eq hb)
         rw [hbar] at h1
         simp only at h1
         unfold wpOpIn
         rw [hob]
         simp only [hwant]
         cases run with
         | true =>
           rw [if_pos rfl]
           have hko : KnOk kn2 a' := fun d t hd => truth_ok (e1.tm d) (h2 d t hd)
           refine Oper.wpIn_mono (fun a2 w2 hp => ?_) (one_sound hE hI hIf hY (one_kn h1 h2) e1 hko)
           obtain ⟨_, _, st2, β2, Z2, ⟨r1, r1k⟩, r2, r3, r4, r5, r6⟩ := hp
           exact ih (i + 1) (by omega) (by omega) _ st2 β2 Z2 a2 w2 _ fuel r1 (knT_keep r1k) r2 (T.trans r3) (r4.trans (hszb.trans hsz)) (fun t h => (r5 t (h o hmem)).trans (keep' t h)) (r6.trans def') (by simp [hls']) lo' hi' (by omega)
         | false =>
           rw [if_neg (by simp)]
           simp only at h1
           split at h1
           · rename_i hh
             obtain ⟨s1, s2⟩ := skip_ok e1 hh
             refine ⟨fun _ _ => trivial, ih (i + 1) (by omega) (by omega) _ _ β' Z' _ w' _ fuel h1 (knT_keep (knT_next h2 _ _ _ _ _)) s1 (T.trans s2) (hszb.trans hsz) (fun t h => ?_) ?_ (by simp [hls']) lo' hi' (by omega)⟩
             · rw [getD_put, if_neg (fun hh => h o hmem hh.1)]; exact keep' t h
             · rw [← def']; cases o.dst <;> rfl
           · exact h1.elim
theorem unl_all : ∀ (n k : Nat), k ≤ n → unl (Array.replicate n false) k = k
 | n, 0, _ => rfl
 | n, k + 1, h => by
   simp only [unl, unl_all n k (by omega)]
   rw [if_neg]
   simp [Array.getD]; omega
theorem draw_ok1 (hE : EnvOk P E) (hI : InlOk P E inl) (hIf : InlFn E inl) (hY : YldOk P E yld) (id : Nat) (ops : Array Oper) (bs : List Nat) (W : St → List (Nat × List Nat)) (ho : orderly ops.toList bs = true) :
   CodeOk P E (.region id ops true) (fun st Q => vcDraw E inl yld ops.toList bs (W st) ops.toList 0 st.nx 0 (fun _ => none) st (Q .normal)) := by
 intro st Q h ro B0 β Z a w hs hm hro
 simp only [orderly, Bool.and_eq_true] at ho
 obtain ⟨hssa, hsd⟩ := ho
 refine wpIn_region_draw fun t => ?_
 simp only [Region.schedule, hE.mix, Bool.true_or, if_true]
 refine wpAnyIn_sound ops.size t _ a _ ?_
 have evD : Evo (Own β st.hp) Z w Z { w with drawn := w.drawn + 1 } := ⟨rfl, rfl, rfl, Nat.le_refl _, fun _ _ _ => rfl, fun _ cs _ h => ⟨cs, h, rfl⟩, fun _ r h => ⟨r, h, rfl, rfl, rfl, rfl, rfl, rfl⟩, fun _ h => h⟩
 have hsD : SatH E 0 (fun n => st.nx ≤ n) β Z st.hp { w with drawn := w.drawn + 1 } :=
   hs.heap.step evD (Ext.refl β) (fun n blk hn => .inl ⟨hn, fun b ln hb => ⟨rfl, (hs.heap.own n blk b ln hn hb).2.1⟩⟩) hs.heap.inj hs.heap.zlt hs.heap.fresh
 have hS : Sat E st β Z a { w with drawn := w.drawn + 1 } := ⟨hsD, fun t => RA.mono evD hs.heap.calm (Ext.refl _) (hs.tm t), hs.sz⟩
 have hT : Turn (HS.of st β Z w) (HS.of st β Z { w with drawn := w.drawn + 1 }) := ⟨evD, Ext.refl _, fun _ h => .inl h, fun _ h => .inl h, Nat.le_refl _, fun _ h => h, fun _ _ _ => rfl⟩
 have hkeepW : ∀ t, writes (.region id ops true) t = false → ∀ o ∈ ops.toList, o.dst ≠ some t := fun t hw o ho e => by
   simp only [writes, List.any_eq_false] at hw
   have := hw o ho
   rw [e] at this
   simp at this
 have hfalse : ∀ k, (Array.replicate ops.size false).getD k false = false := fun k => by
   by_cases hk : k < ops.size <;> simp [Array.getD, hk]
 exact draw_go hE hI hIf hY hssa hsd (x0 := HS.of st β Z w) (sz := st.sz) (a0 := a) (K := Q .normal) (fun st' β' Z' a' w' hk hs' ht hsz hkeep hdef => ⟨st', β', Z', hk, hs', ht, hsz, fun t hw => hkeep t (hkeepW t hw), by rw [hdef]; exact hm.turn ht⟩)
   ops.size 0 (Nat.zero_le _) (by omega) (fun _ => none) st β Z a _ _ ops.size h (fun d t h => by simp at h) hS hT rfl (fun _ _ => rfl) rfl (by simp) (fun k hk => by omega) (fun k _ => hfalse k) (by rw [unl_all _ _ (Nat.le_refl _)]; exact Nat.le_refl _)
theorem readyL_iff {ops : Array Oper} {listed : Array Bool} {m : Nat} (hsz : listed.size = ops.size) (hm : ∀ k, listed.getD k false = m.testBit k) {i : Nat} : i ∈ Region.ready .any ops listed ↔ i ∈ readyL ops.toList m := by
 rw [ready_iff]
 simp only [readyL, List.mem_filter, List.mem_range, Bool.and_eq_true, Bool.not_eq_true']
 constructor
 · rintro ⟨o, ho, h1, h2⟩
   have hlt : i < ops.size := (Array.getElem?_eq_some_iff.1 ho).1
   have hoL : ops.toList[i]? = some o := by simpa using ho
   refine ⟨by simpa using hlt, ?_, ?_⟩
   · rw [← hm]; exact (getD_tf h1).1
   · rw [hoL]
     simp only [List.all_eq_true, Bool.or_eq_true, Bool.not_eq_true']
     intro e he
     cases hb : Region.binds .any e with
     | false => exact .inl rfl
     | true => exact .inr (by rw [← hm]; exact h2 e (by simpa using he) hb)
 · rintro ⟨h0, h1, h2⟩
   have hlt : i < ops.size := by simpa using h0
   have ho : ops[i]? = some ops[i] := by simp [hlt]
   have hoL : ops.toList[i]? = some ops[i] := by simp [hlt]
   rw [hoL] at h2
   simp only [List.all_eq_true, Bool.or_eq_true, Bool.not_eq_true'] at h2
   refine ⟨ops[i], ho, getD_ft (by omega) (by rw [hm]; exact h1), fun e he hb => ?_⟩
   rcases h2 e (by simpa using he) with h3 | h3
   · rw [hb] at h3; cases h3
   · rw [hm]; exact h3
theorem allOf_mem {p : Nat → Prop} : ∀ {l : List Nat}, allOf p l → ∀ i ∈ l, p i
 | [], _, i, h => by cases h
 | a :: l, h, i, hi => by
   rcases List.mem_cons.1 hi with rfl | hi
   · exact h.1
   · exact allOf_mem h.2 i hi
theorem any_go (hE : EnvOk P E) (hI : InlOk P E inl) (hIf : InlFn E inl) (hY : YldOk P E yld) {K : St → Prop} {ro : Option Nat} {Q : Exit → Act → World → Prop} {x0 : HS} {sz : Nat} {a0 : Act}
   (hK : ∀ st' β' Z' a' w', K st' → Sat E st' β' Z' a' w' → Turn x0 (HS.of st' β' Z' w') → st'.sz = sz → (∀ t, (∀ o ∈ ops.toList, o.dst ≠ some t) → a'.tmps.getD t undef = a0.tmps.getD t undef) → a'.defers = a0.defers → Q .normal a' w') :
   ∀ (fuel m : Nat) (st : St) (β : Nat → Loc) (Z : Nat → Prop) (a : Act) (w : World) (listed : Array Bool), vcAny E inl yld ops.toList fuel m st K → Sat E st β Z a w →
     Turn x0 (HS.of st β Z w) → st.sz = sz → (∀ t, (∀ o ∈ ops.toList, o.dst ≠ some t) → a.tmps.getD t undef = a0.tmps.getD t undef) → a.defers = a0.defers → listed.size = ops.size → (∀ k, listed.getD k false = m.testBit k) →
     wpAnyIn (Fn ro) 0 P .any ops Q fuel listed a w := by
 intro fuel
 induction fuel with
 | zero =>
   intro m st β Z a w listed h hs ht hsz hkeep hdef hls hm
   simp only [vcAny] at h
   split at h
   · rename_i hr
     refine ⟨?_, hK st β Z a w h hs ht hsz hkeep hdef⟩
     cases hrd : Region.ready .any ops listed with
     | nil => rfl
     | cons i l =>
       have : i ∈ readyL ops.toList m := (readyL_iff hls hm).1 (by rw [hrd]; simp)
       rw [hr] at this; cases this
   · exact h.elim
 | succ fuel ih =>
   intro m st β Z a w listed h hs ht hsz hkeep hdef hls hm
   simp only [vcAny] at h
   split at h
   · rename_i hr
     refine ⟨fun _ => hK st β Z a w h hs ht hsz hkeep hdef, fun i hi => ?_⟩
     have : i ∈ readyL ops.toList m := (readyL_iff hls hm).1 hi
     rw [hr] at this; cases this
   · rename_i i0 l0 hr
     refine ⟨fun hnil => ?_, fun i hi => ?_⟩
     · have : i0 ∈ Region.ready .any ops listed := (readyL_iff hls hm).2 (by rw [hr]; simp)
       rw [hnil] at this; cases this
     · have hiL : i ∈ readyL ops.toList m := (readyL_iff hls hm).1 hi
       have h1 := allOf_mem h i (by rw [← hr]; exact hiL)
       obtain ⟨o, ho, hun, _⟩ := ready_iff.1 hi
       have hoL : ops.toList[i]? = some o := by simpa using ho
       have hilt : i < listed.size := (getD_tf hun).2
       simp only [hoL] at h1
       have hmem : o ∈ ops.toList := List.mem_of_getElem? hoL
       have hm' : ∀ k, (listed.setIfInBounds i true).getD k false = (m ||| 2 ^ i).testBit k := fun k => by
         rw [getD_set' hilt, Nat.testBit_or, Nat.testBit_two_pow]
         by_cases e : k = i
         · subst e; simp
         · rw [if_neg e, hm k]; have e' : ¬ i = k := fun h => e h.symm; simp [e']
       obtain ⟨kn2, run, h2, h3, h4⟩ := guard_abs h1 (fun d t h => by simp at h)
       have hwant : Region.wanted o (yielded ops a.tmps) = run := by
         rcases h4 with ⟨hg, hr⟩ | ⟨j, want, d, t, hg, hd, htt, hr⟩ | ⟨j, want, d, hg, hd, htt, hr⟩
         · rw [hr]; simp [Region.wanted, hg]
         · rw [hr]; exact wanted_of hg hd (truth_ok (hs.tm d) htt)
         · have hb := hs.tm d
           rw [htt] at hb
           rw [hr]; exact wanted_skip hg hd (ra_skip_eq hb)
       unfold wpOpIn
       rw [ho]
       simp only [hwant]
       cases run with
       | true =>
         rw [if_pos rfl]
         have hko : KnOk kn2 a := fun d t hd => truth_ok (hs.tm d) (h3 d t hd)
         refine Oper.wpIn_mono (fun a2 w2 hp => ?_) (one_sound hE hI hIf hY h2 hs hko)
         obtain ⟨_, _, st2, β2, Z2, r1, r2, r3, r4, r5, r6⟩ := hp
         exact ih _ st2 β2 Z2 a2 w2 _ r1 r2 (ht.trans r3) (r4.trans hsz) (fun t h => (r5 t (h o hmem)).trans (hkeep t h)) (r6.trans hdef) (by simp [hls]) hm'
       | false =>
         rw [if_neg (by simp)]
         simp only at h2
         split at h2
         · rename_i hh
           obtain ⟨s1, s2⟩ := skip_ok hs hh
           refine ⟨fun _ _ => trivial, ih _ _ β Z _ w _ h2 s1 (ht.trans s2) hsz (fun t h => ?_) ?_ (by simp [hls]) hm'⟩
           · rw [getD_put, if_neg (fun hh => h o hmem hh.1)]; exact hkeep t h
           · rw [← hdef]; cases o.dst <;> rfl
         · exact h2.elim
theorem draw_ok2 (hE : EnvOk P E) (hI : InlOk P E inl) (hIf : InlFn E inl) (hY : YldOk P E yld) (id : Nat) (ops : Array Oper) :
   CodeOk P E (.region id ops true) (fun st Q => vcAny E inl yld ops.toList ops.size 0 st (Q .normal)) := by
 intro st Q h ro B0 β Z a w hs hm hro
 refine wpIn_region_draw fun t => ?_
 simp only [Region.schedule, hE.mix, Bool.true_or, if_true]
 refine wpAnyIn_sound ops.size t _ a _ ?_
 have evD : Evo (Own β st.hp) Z w Z { w with drawn := w.drawn + 1 } := ⟨rfl, rfl, rfl, Nat.le_refl _, fun _ _ _ => rfl, fun _ cs _ h => ⟨cs, h, rfl⟩, fun _ r h => ⟨r, h, rfl, rfl, rfl, rfl, rfl, rfl⟩, fun _ h => h⟩
 have hsD : SatH E 0 (fun n => st.nx ≤ n) β Z st.hp { w with drawn := w.drawn + 1 } :=
   hs.heap.step evD (Ext.refl β) (fun n blk hn => .inl ⟨hn, fun b ln hb => ⟨rfl, (hs.heap.own n blk b ln hn hb).2.1⟩⟩) hs.heap.inj hs.heap.zlt hs.heap.fresh
 have hS : Sat E st β Z a { w with drawn := w.drawn + 1 } := ⟨hsD, fun t => RA.mono evD hs.heap.calm (Ext.refl _) (hs.tm t), hs.sz⟩
 have hT : Turn (HS.of st β Z w) (HS.of st β Z { w with drawn := w.drawn + 1 }) := ⟨evD, Ext.refl _, fun _ h => .inl h, fun _ h => .inl h, Nat.le_refl _, fun _ h => h, fun _ _ _ => rfl⟩
 have hkeepW : ∀ t, writes (.region id ops true) t = false → ∀ o ∈ ops.toList, o.dst ≠ some t := fun t hw o ho e => by
   simp only [writes, List.any_eq_false] at hw
   have := hw o ho
   rw [e] at this
   simp at this
 have hfalse : ∀ k, (Array.replicate ops.size false).getD k false = false := fun k => by
   by_cases hk : k < ops.size <;> simp [Array.getD, hk]
 exact any_go hE hI hIf hY (x0 := HS.of st β Z w) (sz := st.sz) (a0 := a) (K := Q .normal) (fun st' β' Z' a' w' hk hs' ht hsz hkeep hdef => ⟨st', β', Z', hk, hs', ht, hsz, fun t hw => hkeep t (hkeepW t hw), by rw [hdef]; exact hm.turn ht⟩)
   ops.size 0 st β Z a _ _ h hS hT rfl (fun _ _ => rfl) rfl (by simp) (fun k => by rw [hfalse]; simp)
theorem draw_ok (hE : EnvOk P E) (hI : InlOk P E inl) (hIf : InlFn E inl) (hY : YldOk P E yld) : DrawOk P E inl yld := ⟨draw_ok1 hE hI hIf hY, draw_ok2 hE hI hIf hY⟩
theorem contract (hE : EnvOk P E) {fuel : Nat} {f : FuncId} {args : List TV} {rs : List RV} (h : inlOf E (vc E fuel) f args (fun _ => none) 0 [] (fun v hp _ _ => resFit hp v rs)) : CallQ P E f args rs :=
 callQ_of hE (fun _ _ hI hIf hY => draw_ok hE hI hIf hY) h
end
end Go.Sx
namespace Go.Sx
def Env.add (E : Env) (f : FuncId) (s : Sig) : Env := { E with sig := fun g => match Nat.beq g f with | true => some s | false => E.sig g }
def Env.loops (E : Env) (l : Nat → Nat → Option Ann) (c : Nat → Nat → Option Ann := fun _ _ => none) : Env := { E with lam := l, cut := c }
def lookLam : List (Nat × Nat × Ann) → Nat → Nat → Option Ann
 | [], _, _ => none
 | (f, r, A) :: l, g, s => match Nat.beq g f && Nat.beq s r with | true => some A | false => lookLam l g s
section
variable {P : Program} {E E' : Env} {β : Nat → Loc} {Z : Nat → Prop} {hp : Hp} {w : World}
theorem SatH.gl_congr {B : Nat} {Fr : Nat → Prop} (e : E.gl = E'.gl) (h : SatH E B Fr β Z hp w) : SatH E' B Fr β Z hp w :=
 ⟨h.rb, h.own, h.inj, h.zlt, h.fresh, fun g n get hg => h.gl g n get (by rw [e]; exact hg)⟩
theorem CallQ.congr (e : E.gl = E'.gl) {f : FuncId} {args : List TV} {rs : List RV} (h : CallQ P E f args rs) : CallQ P E' f args rs := by
 intro Z w vs hs hr
 refine CallsIn.mono (h Z w vs (hs.gl_congr e.symm) hr) fun e' w' hp => ?_
 obtain ⟨val, β', Z', a1, a2, a3⟩ := hp
 exact ⟨val, β', Z', a1, a2.gl_congr e, a3⟩
theorem SemRec.congr (e : E.gl = E'.gl) {f : FuncId} {R : RSpec} {g : R.γ} (h : SemRec P E f R g) : SemRec P E' f R g := by
 intro Z β w vs hs hr
 refine CallsIn.mono (h Z β w vs (hs.gl_congr e.symm) hr) fun e' w' hp => ?_
 obtain ⟨val, l, Z', a1, a2, a3, a4, a5, a6, a7, a8⟩ := hp
 exact ⟨val, l, Z', a1, a2, a3, a4, a5, a6, a7, fun g n get hg => a8 g n get (by rw [e]; exact hg)⟩
theorem SemK.congr (e : E.gl = E'.gl) {f : FuncId} {R : KSpec} {g : R.γ} (h : SemK P E f R g) : SemK P E' f R g := by
 intro Z β w vs hs hr
 refine CallsIn.mono (h Z β w vs (hs.gl_congr e.symm) hr) fun e' w' hp => ?_
 obtain ⟨val, d, Z', βf, a1, a2, a3, a4, a5, a6, a7, a8, a9⟩ := hp
 exact ⟨val, d, Z', βf, a1, a2, a3, a4, a5.gl_congr e, a6, a7, a8, a9⟩
theorem EnvOk.add (hE : EnvOk P E) {f : FuncId} {s : Sig} (hf : ∃ fn c, P.funcs[f]? = some fn ∧ (fn.name == "runtime.NumGoroutine") = false ∧ fn.body = some c) (hq : ∀ x, s.pre x → CallQ P E f (s.arg x) (s.res x)) : EnvOk P (E.add f s) := by
 refine ⟨hE.tab, hE.fn, fun g hg => ?_, fun g t x ht hx => ?_, hE.mix, hE.maps, fun g R x hR hx => SemRec.congr (E := E) (E' := E.add f s) rfl (hE.again g R x hR hx), fun g R x hR hx => SemK.congr (E := E) (E' := E.add f s) rfl (hE.kept g R x hR hx), fun g Re x hR hx => SemK.congr (E := E) (E' := E.add f s) rfl (hE.even g Re x hR hx)⟩
 · by_cases e : g = f
   · subst e; exact hf
   · refine hE.runs g (hg.imp id (fun h => ?_))
     simp only [Env.add, beq_ne e] at h; exact h
 · by_cases e : g = f
   · subst e
     simp only [Env.add, Nat.beq_refl] at ht
     injection ht with ht; subst ht
     exact CallQ.congr (E := E) (E' := E.add g s) rfl (hq x hx)
   · simp only [Env.add, beq_ne e] at ht
     exact CallQ.congr (E := E) (E' := E.add f s) rfl (hE.sig g t x ht hx)
def lookTy : List (Nat × TI) → Nat → Option TI
 | [], _ => none
 | (t, i) :: l, n => match Nat.beq n t with | true => some i | false => lookTy l n
def okKind : TK → Bool
 | .other => false
 | _ => true
theorem lookTy_mem : ∀ {l : List (Nat × TI)} {t : Nat} {i : TI}, lookTy l t = some i → (t, i) ∈ l
 | [], _, _, h => by simp [lookTy] at h
 | (n, j) :: l, t, i, h => by
   simp only [lookTy] at h
   split at h
   · rename_i e
     have := Nat.eq_of_beq_eq_true e
     subst this
     simp at h; subst h; simp
   · exact List.mem_cons_of_mem _ (lookTy_mem h)
theorem map_eq_mem {α β : Type} {f g : α → β} : ∀ {l : List α}, l.map f = l.map g → ∀ x ∈ l, f x = g x
 | [], _, x, hx => by simp at hx
 | a :: l, h, x, hx => by
   simp only [List.map_cons, List.cons.injEq] at h
   rcases List.mem_cons.1 hx with rfl | hx
   · exact h.1
   · exact map_eq_mem h.2 x hx
theorem tab_ok {l : List (Nat × TI)} (hE : E.ty = lookTy l) (h : l.map (fun x => tabTI P x.1) = l.map (fun x => some x.2)) (hk : l.all (fun x => okKind x.2.kind) = true) : TabOk P E := fun t i ht => by
 rw [hE] at ht
 have hm := lookTy_mem ht
 refine ⟨map_eq_mem h _ hm, fun e => ?_⟩
 have := List.all_eq_true.1 hk _ hm
 simp [e, okKind] at this
theorem EnvOk.loops (hE : EnvOk P E) (l c : Nat → Nat → Option Ann) : EnvOk P (E.loops l c) :=
 ⟨hE.tab, hE.fn, hE.runs, fun g t x ht hx => CallQ.congr (E := E) (E' := E.loops l c) rfl (hE.sig g t x ht hx), hE.mix, hE.maps, fun g R x hR hx => SemRec.congr (E := E) (E' := E.loops l c) rfl (hE.again g R x hR hx), fun g R x hR hx => SemK.congr (E := E) (E' := E.loops l c) rfl (hE.kept g R x hR hx), fun g Re x hR hx => SemK.congr (E := E) (E' := E.loops l c) rfl (hE.even g Re x hR hx)⟩
theorem of_red {p q : Prop} (e : p = q) (h : q) : p := e ▸ h
def lookSig : List (Nat × Sig) → Nat → Option Sig
 | [], _ => none
 | (f, s) :: l, n => match Nat.beq n f with | true => some s | false => lookSig l n
def Env.sigs (E : Env) (l : List (Nat × Sig)) : Env := { E with sig := lookSig l }
structure SigsOk (P : Program) (E : Env) (l : List (Nat × Sig)) : Prop where
 all : ∀ f s, (f, s) ∈ l → (∃ fn c, P.funcs[f]? = some fn ∧ (fn.name == "runtime.NumGoroutine") = false ∧ fn.body = some c) ∧ ∀ x, s.pre x → CallQ P E f (s.arg x) (s.res x)
theorem lookSig_mem : ∀ {l : List (Nat × Sig)} {f : Nat} {s : Sig}, lookSig l f = some s → (f, s) ∈ l
 | [], _, _, h => by simp [lookSig] at h
 | (n, j) :: l, t, i, h => by
   simp only [lookSig] at h
   split at h
   · rename_i e
     have := Nat.eq_of_beq_eq_true e
     subst this
     simp at h; subst h; simp
   · exact List.mem_cons_of_mem _ (lookSig_mem h)
theorem SigsOk.nil : SigsOk P E [] := ⟨fun _ _ h => by cases h⟩
theorem SigsOk.cons {l : List (Nat × Sig)} (h : SigsOk P E l) {f : Nat} {s : Sig} (hf : ∃ fn c, P.funcs[f]? = some fn ∧ (fn.name == "runtime.NumGoroutine") = false ∧ fn.body = some c) (hq : ∀ x, s.pre x → CallQ P E f (s.arg x) (s.res x)) : SigsOk P E ((f, s) :: l) :=
 ⟨fun g t hm => by
   rcases List.mem_cons.1 hm with e | hm
   · cases e; exact ⟨hf, hq⟩
   · exact h.all g t hm⟩
theorem EnvOk.sigs (hE : EnvOk P E) {l : List (Nat × Sig)} (h : SigsOk P E l) (h0 : ∀ f, (E.fn f).isSome = true → ∃ fn c, P.funcs[f]? = some fn ∧ (fn.name == "runtime.NumGoroutine") = false ∧ fn.body = some c) : EnvOk P (E.sigs l) := by
 refine ⟨hE.tab, hE.fn, fun f hf => ?_, fun f s x hs hx => ?_, hE.mix, hE.maps, fun g R x hR hx => SemRec.congr (E := E) (E' := E.sigs l) rfl (hE.again g R x hR hx), fun g R x hR hx => SemK.congr (E := E) (E' := E.sigs l) rfl (hE.kept g R x hR hx), fun g Re x hR hx => SemK.congr (E := E) (E' := E.sigs l) rfl (hE.even g Re x hR hx)⟩
 · rcases hf with hf | hf
   · exact h0 f hf
   · obtain ⟨s, hs⟩ := Option.isSome_iff_exists.1 hf
     exact (h.all f s (lookSig_mem hs)).1
 · exact CallQ.congr (E := E) (E' := E.sigs l) rfl ((h.all f s (lookSig_mem hs)).2 x hx)
def Env.keeping (E : Env) : Env := { E with keep := true }
theorem EnvOk.keeping (hE : EnvOk P E) : EnvOk P E.keeping :=
 ⟨hE.tab, hE.fn, hE.runs, fun g t x ht hx => CallQ.congr (E := E) (E' := E.keeping) rfl (hE.sig g t x ht hx), hE.mix, hE.maps, fun g R x hR hx => SemRec.congr (E := E) (E' := E.keeping) rfl (hE.again g R x hR hx), fun g R x hR hx => SemK.congr (E := E) (E' := E.keeping) rfl (hE.kept g R x hR hx), fun g Re x hR hx => SemK.congr (E := E) (E' := E.keeping) rfl (hE.even g Re x hR hx)⟩
def lookFrz : List (Nat × Nat × List Nat) → Nat → Nat → List Nat
 | [], _, _ => []
 | (f, r, l) :: t, g, s => match Nat.beq g f && Nat.beq s r with | true => l | false => lookFrz t g s
def Env.frzs (E : Env) (z : List (Nat × Nat × List Nat)) : Env := { E with frz := lookFrz z }
theorem EnvOk.frzs (hE : EnvOk P E) (z : List (Nat × Nat × List Nat)) : EnvOk P (E.frzs z) :=
 ⟨hE.tab, hE.fn, hE.runs, fun g t x ht hx => CallQ.congr (E := E) (E' := E.frzs z) rfl (hE.sig g t x ht hx), hE.mix, hE.maps, fun g R x hR hx => SemRec.congr (E := E) (E' := E.frzs z) rfl (hE.again g R x hR hx), fun g R x hR hx => SemK.congr (E := E) (E' := E.frzs z) rfl (hE.kept g R x hR hx), fun g Re x hR hx => SemK.congr (E := E) (E' := E.frzs z) rfl (hE.even g Re x hR hx)⟩
def RSpec.below (R : RSpec) (mu : R.γ → Nat) (n : Nat) : RSpec := { R with ok := fun g => R.ok g ∧ mu g < n }
def KSpec.below (R : KSpec) (mu : R.γ → Nat) (n : Nat) : KSpec := { R with ok := fun g => R.ok g ∧ mu g < n }
theorem SigsOk.congr (e : E.gl = E'.gl) {l : List (Nat × Sig)} (h : SigsOk P E l) : SigsOk P E' l :=
 ⟨fun f s hm => ⟨(h.all f s hm).1, fun x hx => CallQ.congr (E := E) (E' := E') e ((h.all f s hm).2 x hx)⟩⟩
def lookEv : List (Nat × ESpec) → Nat → Option ESpec
 | [], _ => none
 | (f, s) :: l, n => match Nat.beq n f with | true => some s | false => lookEv l n
def Env.evens (E : Env) (l : List (Nat × ESpec)) : Env := { E with even := lookEv l }
structure EvensOk (P : Program) (E : Env) (l : List (Nat × ESpec)) : Prop where
 all : ∀ f s, (f, s) ∈ l → ∀ x, s.ok x → SemK P E f s.toK x
theorem lookEv_mem : ∀ {l : List (Nat × ESpec)} {f : Nat} {s : ESpec}, lookEv l f = some s → (f, s) ∈ l
 | [], _, _, h => by simp [lookEv] at h
 | (n, j) :: l, t, i, h => by
   simp only [lookEv] at h
   split at h
   · rename_i e
     have := Nat.eq_of_beq_eq_true e
     subst this
     simp at h; subst h; simp
   · exact List.mem_cons_of_mem _ (lookEv_mem h)
theorem EvensOk.nil : EvensOk P E [] := ⟨fun _ _ h => by cases h⟩
theorem EvensOk.cons {l : List (Nat × ESpec)} (h : EvensOk P E l) {f : Nat} {s : ESpec} (hq : ∀ x, s.ok x → SemK P E f s.toK x) : EvensOk P E ((f, s) :: l) :=
 ⟨fun g t hm => by
   rcases List.mem_cons.1 hm with e | hm
   · cases e; exact hq
   · exact h.all g t hm⟩
theorem EvensOk.congr (e : E.gl = E'.gl) {l : List (Nat × ESpec)} (h : EvensOk P E l) : EvensOk P E' l :=
 ⟨fun f s hm x hx => SemK.congr (E := E) (E' := E') e (h.all f s hm x hx)⟩
theorem EnvOk.evens (hE : EnvOk P E) {l : List (Nat × ESpec)} (h : EvensOk P E l) : EnvOk P (E.evens l) :=
 ⟨hE.tab, hE.fn, hE.runs, fun g t x ht hx => CallQ.congr (E := E) (E' := E.evens l) rfl (hE.sig g t x ht hx), hE.mix, hE.maps, fun g R x hR hx => SemRec.congr (E := E) (E' := E.evens l) rfl (hE.again g R x hR hx), fun g R x hR hx => SemK.congr (E := E) (E' := E.evens l) rfl (hE.kept g R x hR hx),
   fun g R x hR hx => SemK.congr (E := E) (E' := E.evens l) rfl (h.all g R (lookEv_mem hR) x hx)⟩
def lookWk : List (Nat × Nat × (St → List (Nat × Blk))) → Nat → Nat → St → List (Nat × Blk)
 | [], _, _, _ => []
 | (f, r, l) :: t, g, s, st => match Nat.beq g f && Nat.beq s r with | true => l st | false => lookWk t g s st
def Env.wks (E : Env) (z : List (Nat × Nat × (St → List (Nat × Blk)))) : Env := { E with wk := lookWk z }
theorem EnvOk.wks (hE : EnvOk P E) (z : List (Nat × Nat × (St → List (Nat × Blk)))) : EnvOk P (E.wks z) :=
 ⟨hE.tab, hE.fn, hE.runs, fun g t x ht hx => CallQ.congr (E := E) (E' := E.wks z) rfl (hE.sig g t x ht hx), hE.mix, hE.maps, fun g R x hR hx => SemRec.congr (E := E) (E' := E.wks z) rfl (hE.again g R x hR hx), fun g R x hR hx => SemK.congr (E := E) (E' := E.wks z) rfl (hE.kept g R x hR hx), fun g R x hR hx => SemK.congr (E := E) (E' := E.wks z) rfl (hE.even g R x hR hx)⟩
def Env.all (E : Env) (T : List (Nat × Sig)) (V : List (Nat × ESpec)) (l c : List (Nat × Nat × Ann)) (z : List (Nat × Nat × List Nat)) (k : List (Nat × Nat × (St → List (Nat × Blk)))) : Env := ((((E.sigs T).evens V).loops (lookLam l) (lookLam c)).keeping.frzs z).wks k
theorem EnvOk.all_ (hE : EnvOk P E) {T : List (Nat × Sig)} (hT : SigsOk P E T) {V : List (Nat × ESpec)} (hV : EvensOk P E V) (h0 : ∀ f, (E.fn f).isSome = true → ∃ fn c, P.funcs[f]? = some fn ∧ (fn.name == "runtime.NumGoroutine") = false ∧ fn.body = some c) (l c : List (Nat × Nat × Ann)) (z : List (Nat × Nat × List Nat)) (k : List (Nat × Nat × (St → List (Nat × Blk)))) : EnvOk P (E.all T V l c z k) :=
 (((((hE.sigs hT h0).evens (hV.congr (E := E) (E' := E.sigs T) rfl)).loops (lookLam l) (lookLam c)).keeping).frzs z).wks k
theorem bare_all (hE : EnvOk P E) (T : List (Nat × Sig)) (hT : SigsOk P E T) (V : List (Nat × ESpec)) (hV : EvensOk P E V) (h0 : ∀ f, (E.fn f).isSome = true → ∃ fn c, P.funcs[f]? = some fn ∧ (fn.name == "runtime.NumGoroutine") = false ∧ fn.body = some c) (l c : List (Nat × Nat × Ann)) (z : List (Nat × Nat × List Nat)) (k : List (Nat × Nat × (St → List (Nat × Blk)))) {fuel : Nat} {f : FuncId} {args : List TV} {rs : List RV}
   (h : inlOf (E.all T V l c z k) (vc (E.all T V l c z k) fuel) f args (fun _ => none) 0 [] (fun v hp _ _ => resFit hp v rs)) : CallQ P E f args rs :=
 CallQ.congr (E := E.all T V l c z k) (E' := E) rfl (contract (hE.all_ hT hV h0 l c z k) h)
def lookCs : List (Nat × Nat × List (Nat × List Int)) → Nat → Nat → List (Nat × List Int)
 | [], _, _ => []
 | (f, r, l) :: t, g, s => match Nat.beq g f && Nat.beq s r with | true => l | false => lookCs t g s
def Env.css (E : Env) (z : List (Nat × Nat × List (Nat × List Int))) : Env := { E with cs := lookCs z }
theorem EnvOk.css (hE : EnvOk P E) (z : List (Nat × Nat × List (Nat × List Int))) : EnvOk P (E.css z) :=
 ⟨hE.tab, hE.fn, hE.runs, fun g t x ht hx => CallQ.congr (E := E) (E' := E.css z) rfl (hE.sig g t x ht hx), hE.mix, hE.maps, fun g R x hR hx => SemRec.congr (E := E) (E' := E.css z) rfl (hE.again g R x hR hx), fun g R x hR hx => SemK.congr (E := E) (E' := E.css z) rfl (hE.kept g R x hR hx), fun g R x hR hx => SemK.congr (E := E) (E' := E.css z) rfl (hE.even g R x hR hx)⟩
def inL : List (Nat × Nat) → Nat → Nat → Bool
 | [], _, _ => false
 | (f, r) :: l, g, s => (Nat.beq g f && Nat.beq s r) || inL l g s
def Env.tights (E : Env) (y : List (Nat × Nat)) : Env := { E with any := fun f r => !(inL y f r), every := inL y }
theorem EnvOk.tights (hE : EnvOk P E) (y : List (Nat × Nat)) : EnvOk P (E.tights y) :=
 ⟨hE.tab, hE.fn, hE.runs, fun g t x ht hx => CallQ.congr (E := E) (E' := E.tights y) rfl (hE.sig g t x ht hx), hE.mix, hE.maps, fun g R x hR hx => SemRec.congr (E := E) (E' := E.tights y) rfl (hE.again g R x hR hx), fun g R x hR hx => SemK.congr (E := E) (E' := E.tights y) rfl (hE.kept g R x hR hx), fun g R x hR hx => SemK.congr (E := E) (E' := E.tights y) rfl (hE.even g R x hR hx)⟩
def lookU : List (Nat × Nat × Nat) → Nat → Nat → Nat
 | [], _, _ => 0
 | (f, r, n) :: l, g, s => match Nat.beq g f && Nat.beq s r with | true => n | false => lookU l g s
def Env.concs (E : Env) (u : List (Nat × Nat × Nat)) : Env := { E with conc := true, unr := lookU u }
theorem EnvOk.concs (hE : EnvOk P E) (u : List (Nat × Nat × Nat)) : EnvOk P (E.concs u) :=
 ⟨hE.tab, hE.fn, hE.runs, fun g t x ht hx => CallQ.congr (E := E) (E' := E.concs u) rfl (hE.sig g t x ht hx), hE.mix, hE.maps, fun g R x hR hx => SemRec.congr (E := E) (E' := E.concs u) rfl (hE.again g R x hR hx), fun g R x hR hx => SemK.congr (E := E) (E' := E.concs u) rfl (hE.kept g R x hR hx), fun g R x hR hx => SemK.congr (E := E) (E' := E.concs u) rfl (hE.even g R x hR hx)⟩
def lookOld : List (Nat × Nat × (St → List (Nat × List Nat))) → Nat → Nat → St → List (Nat × List Nat)
 | [], _, _, _ => []
 | (f, r, l) :: t, g, s, st => match Nat.beq g f && Nat.beq s r with | true => l st | false => lookOld t g s st
def Env.olds (E : Env) (z : List (Nat × Nat × (St → List (Nat × List Nat)))) : Env := { E with old := lookOld z }
theorem EnvOk.olds (hE : EnvOk P E) (z : List (Nat × Nat × (St → List (Nat × List Nat)))) : EnvOk P (E.olds z) :=
 ⟨hE.tab, hE.fn, hE.runs, fun g t x ht hx => CallQ.congr (E := E) (E' := E.olds z) rfl (hE.sig g t x ht hx), hE.mix, hE.maps, fun g R x hR hx => SemRec.congr (E := E) (E' := E.olds z) rfl (hE.again g R x hR hx), fun g R x hR hx => SemK.congr (E := E) (E' := E.olds z) rfl (hE.kept g R x hR hx), fun g R x hR hx => SemK.congr (E := E) (E' := E.olds z) rfl (hE.even g R x hR hx)⟩
def lookPk : List (Nat × PSpec) → Nat → Option PSpec
 | [], _ => none
 | (f, s) :: l, n => match Nat.beq n f with | true => some s | false => lookPk l n
def Env.peeks (E : Env) (z : List (Nat × PSpec)) : Env := { E with peek := lookPk z }
theorem EnvOk.peeks (hE : EnvOk P E) (z : List (Nat × PSpec)) : EnvOk P (E.peeks z) :=
 ⟨hE.tab, hE.fn, hE.runs, fun g t x ht hx => CallQ.congr (E := E) (E' := E.peeks z) rfl (hE.sig g t x ht hx), hE.mix, hE.maps, fun g R x hR hx => SemRec.congr (E := E) (E' := E.peeks z) rfl (hE.again g R x hR hx), fun g R x hR hx => SemK.congr (E := E) (E' := E.peeks z) rfl (hE.kept g R x hR hx), fun g R x hR hx => SemK.congr (E := E) (E' := E.peeks z) rfl (hE.even g R x hR hx)⟩
def lookTw : List (Nat × Nat × (St → List (Nat × CV))) → Nat → Nat → St → List (Nat × CV)
 | [], _, _, _ => []
 | (f, r, l) :: t, g, s, st => match Nat.beq g f && Nat.beq s r with | true => l st | false => lookTw t g s st
def Env.lives (E : Env) (z : Bool) (x : Bool := false) (y : List (Nat × Nat × (St → List (Nat × CV))) := []) : Env := { E with live := z, ex := x, tmw := lookTw y }
theorem EnvOk.lives (hE : EnvOk P E) (z : Bool) (x : Bool := false) (y : List (Nat × Nat × (St → List (Nat × CV))) := []) : EnvOk P (E.lives z x y) :=
 ⟨hE.tab, hE.fn, hE.runs, fun g t k ht hk => CallQ.congr (E := E) (E' := E.lives z x y) rfl (hE.sig g t k ht hk), hE.mix, hE.maps, fun g R k hR hk => SemRec.congr (E := E) (E' := E.lives z x y) rfl (hE.again g R k hR hk), fun g R k hR hk => SemK.congr (E := E) (E' := E.lives z x y) rfl (hE.kept g R k hR hk), fun g R k hR hk => SemK.congr (E := E) (E' := E.lives z x y) rfl (hE.even g R k hR hk)⟩
structure Say where
 l : List (Nat × Nat × Ann) := []
 c : List (Nat × Nat × Ann) := []
 z : List (Nat × Nat × List Nat) := []
 k : List (Nat × Nat × (St → List (Nat × Blk))) := []
 q : List (Nat × Nat × List (Nat × List Int)) := []
 y : List (Nat × Nat) := []
 o : List (Nat × Nat × (St → List (Nat × List Nat))) := []
 p : List (Nat × PSpec) := []
 live : Bool := false
 ex : Bool := false
 w : List (Nat × Nat × (St → List (Nat × CV))) := []
def Env.say (E : Env) (T : List (Nat × Sig)) (V : List (Nat × ESpec)) (s : Say) : Env := (((((E.all T V s.l s.c s.z s.k).css s.q).tights s.y).olds s.o).peeks s.p).lives s.live s.ex s.w
theorem lives_gl (E : Env) (z x : Bool) (y : List (Nat × Nat × (St → List (Nat × CV)))) : (E.lives z x y).gl = E.gl := rfl
theorem peeks_gl (E : Env) (z : List (Nat × PSpec)) : (E.peeks z).gl = E.gl := rfl
theorem olds_gl (E : Env) (z : List (Nat × Nat × (St → List (Nat × List Nat)))) : (E.olds z).gl = E.gl := rfl
theorem tights_gl (E : Env) (z : List (Nat × Nat)) : (E.tights z).gl = E.gl := rfl
theorem css_gl (E : Env) (z : List (Nat × Nat × List (Nat × List Int))) : (E.css z).gl = E.gl := rfl
theorem all_gl (E : Env) (T : List (Nat × Sig)) (V : List (Nat × ESpec)) (l c : List (Nat × Nat × Ann)) (z : List (Nat × Nat × List Nat)) (k : List (Nat × Nat × (St → List (Nat × Blk)))) : (E.all T V l c z k).gl = E.gl := rfl
theorem say_gl {T : List (Nat × Sig)} {V : List (Nat × ESpec)} {s : Say} : (E.say T V s).gl = E.gl := by
 unfold Env.say
 rw [lives_gl, peeks_gl, olds_gl, tights_gl, css_gl, all_gl]
theorem concs_gl (E : Env) (u : List (Nat × Nat × Nat)) : (E.concs u).gl = E.gl := rfl
theorem EnvOk.say_ (hE : EnvOk P E) {T : List (Nat × Sig)} (hT : SigsOk P E T) {V : List (Nat × ESpec)} (hV : EvensOk P E V) (h0 : ∀ f, (E.fn f).isSome = true → ∃ fn c, P.funcs[f]? = some fn ∧ (fn.name == "runtime.NumGoroutine") = false ∧ fn.body = some c) (s : Say) : EnvOk P (E.say T V s) :=
 (((((hE.all_ hT hV h0 s.l s.c s.z s.k).css s.q).tights s.y).olds s.o).peeks s.p).lives s.live s.ex s.w
theorem bare_say (hE : EnvOk P E) (T : List (Nat × Sig)) (hT : SigsOk P E T) (V : List (Nat × ESpec)) (hV : EvensOk P E V) (h0 : ∀ f, (E.fn f).isSome = true → ∃ fn c, P.funcs[f]? = some fn ∧ (fn.name == "runtime.NumGoroutine") = false ∧ fn.body = some c) (s : Say) {fuel : Nat} {f : FuncId} {args : List TV} {rs : List RV}
   (h : inlOf (E.say T V s) (vc (E.say T V s) fuel) f args (fun _ => none) 0 [] (fun v hp _ _ => resFit hp v rs)) : CallQ P E f args rs :=
 CallQ.congr (E := E.say T V s) (E' := E) say_gl (contract (hE.say_ hT hV h0 s) h)
theorem bare_num (hE : EnvOk P E) (T : List (Nat × Sig)) (hT : SigsOk P E T) (V : List (Nat × ESpec)) (hV : EvensOk P E V) (h0 : ∀ f, (E.fn f).isSome = true → ∃ fn c, P.funcs[f]? = some fn ∧ (fn.name == "runtime.NumGoroutine") = false ∧ fn.body = some c) (s : Say) (u : List (Nat × Nat × Nat)) {fuel : Nat} {f : FuncId} {args : List TV} {rs : List RV}
   (h : inlOf ((E.say T V s).concs u) (vc ((E.say T V s).concs u) fuel) f args (fun _ => none) 0 [] (fun v hp _ _ => resFit hp v rs)) : CallQ P E f args rs :=
 CallQ.congr (E := E.say T V s) (E' := E) say_gl (CallQ.congr (E := (E.say T V s).concs u) (E' := E.say T V s) (concs_gl (E.say T V s) u) (contract (EnvOk.concs (hE.say_ hT hV h0 s) u) h))
end
end Go.Sx
