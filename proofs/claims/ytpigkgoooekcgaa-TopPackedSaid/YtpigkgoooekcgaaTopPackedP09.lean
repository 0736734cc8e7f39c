/- Texts for the law of the last part, part 9. -/
import Derived.Test.YtpigkgoooekcgaaTopPackedP08
set_option linter.unusedSimpArgs false
set_option linter.unusedVariables false
namespace Go.Sx
section
variable {P : Program} {E : Env} {β β' : Nat → Loc} {Z Z' : Nat → Prop} {hp : Hp} {w w' : World} {inl : CallVC} {yld : YieldVC}
theorem stepR_scope {b : Frame} {a : Act} {k : List Item} {cs : List Frame} {c : Code} : step P (lone (b.atR a (.code (.scope c) :: k)) cs w) = .next (lone (b.atR a (.code c :: .inScope c :: k)) cs w) :=
 step_lone_go (by simp [stepG, stepG.exec, Frame.atR])
theorem stepR_inScope {b : Frame} {a : Act} {k : List Item} {cs : List Frame} {c : Code} : step P (lone (b.atR a (.inScope c :: k)) cs w) = .next (lone (b.atR a k) cs w) :=
 step_lone_go (by simp [stepG, stepG.exec, Frame.atR])
theorem wpIn_scope {F : Fence} {n : Nat} {Q : Exit → Act → World → Prop} {a : Act} {c : Code} (h : c.wpIn F n P (fun e a w => match e with | .goto _ => False | e => Q e a w) a w) : (Code.scope c).wpIn F n P Q a w := by
 intro b k cs hro hb hr
 have h0 : (lone (b.atR a (.code (.scope c) :: k)) cs w).fenced P F := fenced_calm hb hr rfl
 obtain ⟨e, a₁, w₁, hq, harr⟩ := h b (.inScope c :: k) cs hro hb hr
 cases e with
 | normal => exact ⟨.normal, a₁, w₁, hq, .head h0 stepR_scope (StepsIn.trans harr (.one (fenced_calm hb hr rfl) stepR_inScope))⟩
 | exit id =>
   have hx : exitTo id (.inScope c :: k) = exitTo id k := by simp [exitTo]
   exact ⟨.exit id, a₁, w₁, hq, fun k' hk => .head h0 stepR_scope (harr.1 k' (by rw [hx]; exact hk)),
       fun hr' hk => let ⟨k₁, h1, h2⟩ := harr.2 hr' (by rw [hx]; exact hk); ⟨k₁, h1, .head h0 stepR_scope h2⟩⟩
 | goto l => exact hq.elim
 | ret => exact ⟨_, a₁, w₁, hq, .of_steps (.one h0 stepR_scope) harr⟩
 | panic ch => exact ⟨_, a₁, w₁, hq, .of_steps (.one h0 stepR_scope) harr⟩
 | outgrown => exact ⟨_, a₁, w₁, hq, .of_steps (.one h0 stepR_scope) harr⟩
theorem wkAll_ok : ∀ {l : List (Nat × Blk)} {st : St} {a : Act} {K : St → Prop}, wkAll l st K → Sat E st β Z a w → ∃ st', K st' ∧ Sat E st' β Z a w ∧ Turn (HS.of st β Z w) (HS.of st' β Z w) ∧ st'.sz = st.sz
 | [], st, a, K, h, hs => ⟨st, h, hs, Turn.refl _, rfl⟩
 | (n, b) :: l, st, a, K, h, hs => by
   obtain ⟨h1, h2⟩ := h
   split at h1
   · rename_i b1 hb1
     have hb : RB β Z w (β n) b := fitBlk_ok (ρ := fun m => .nm m) ⟨fun m k e => by injection e with e; subst e; rfl, fun m e => by cases e⟩ h1 (hs.heap.rb n b1 hb1)
     have hs1 : Sat E { tm := st.tm, sz := st.sz, hp := upd st.hp n (some b), nx := st.nx, wl := n :: st.wl } β Z a w := ⟨hs.heap.less hb1 hb, hs.tm, hs.sz⟩
     obtain ⟨st', k1, k2, k3, k4⟩ := wkAll_ok h2 hs1
     refine ⟨st', k1, k2, Turn.trans (y := HS.of { tm := st.tm, sz := st.sz, hp := upd st.hp n (some b), nx := st.nx, wl := n :: st.wl } β Z w) ⟨Evo.refl _ _ _, Ext.refl _, fun k hk => .inl ?_, fun _ h => .inl h, Nat.le_refl _, fun m hm => List.mem_cons_of_mem _ hm, fun m _ hm => ?_⟩ k3, k4⟩
     · obtain ⟨m, x, ln, q1, q2⟩ := hk
       by_cases e : m = n
       · subst e; exact ⟨m, b1, ln, hb1, q2⟩
       · have q1 : upd st.hp n (some b) m = some x := q1
         rw [upd_ne _ _ e] at q1; exact ⟨m, x, ln, q1, q2⟩
     · show upd st.hp n (some b) m = st.hp m
       exact upd_ne _ _ (fun e => hm (by rw [e]; exact List.mem_cons_self ..))
   · exact h1.elim
theorem each_one {n : Int} {p : Int → Prop} : ∀ {l : List Int}, oneOf n l → eachOf n l p → p n
 | [], h, _ => h.elim
 | a :: l, h, h' => by
   rcases h with rfl | h
   · exact h'.1 rfl
   · exact each_one h h'.2
theorem csAll_ok : ∀ {l : List (Nat × List Int)} {st : St} {a : Act} {K : St → Prop}, csAll l st K → Sat E st β Z a w → ∃ st', K st' ∧ Sat E st' β Z a w ∧ Turn (HS.of st β Z w) (HS.of st' β Z w) ∧ st'.sz = st.sz
 | [], st, a, K, h, hs => ⟨st, h, hs, Turn.refl _, rfl⟩
 | (t, ls) :: l, st, a, K, h, hs => by
   simp only [csAll] at h
   split at h
   · rename_i k n htm
     have h2 := each_one (p := fun m => csAll l { tm := upd st.tm t (.t (.c (.int k m))), sz := st.sz, hp := st.hp, nx := st.nx, wl := st.wl } K) h.1 h.2
     have hs1 : Sat E { tm := upd st.tm t (.t (.c (.int k n))), sz := st.sz, hp := st.hp, nx := st.nx, wl := st.wl } β Z a w := ⟨hs.heap, fun d => by
       show RA β Z w (upd st.tm t (.t (.c (.int k n))) d) _
       by_cases e : d = t
       · subst e; rw [upd_same, ← htm]; exact hs.tm d
       · rw [upd_ne _ _ e]; exact hs.tm d, hs.sz⟩
     obtain ⟨st', k1, k2, k3, k4⟩ := csAll_ok h2 hs1
     exact ⟨st', k1, k2, k3, k4⟩
   · exact h.elim
theorem fitLit_ok {x y : CV} {v : Value} (hf : fitLit x y) (hx : RP Z w x v) : RP Z w y v := by
 unfold fitLit at hf
 split at hf
 · rename_i s l g s' l' g'
   obtain ⟨h1, h2⟩ := hf
   have h1 := chk_iff.1 h1
   rw [Bool.and_eq_true] at h1
   exact fitP_ok (x := .vs s l g) (y := .vs s' l' g') ⟨chk_iff.2 h1.1, Nat.eq_of_beq_eq_true h1.2, fun i hi => allN_get h2 i hi⟩ hx
 · exact fitP_ok hf hx
theorem tmwAll_ok : ∀ {l : List (Nat × CV)} {st : St} {a : Act} {K : St → Prop}, tmwAll l st K → Sat E st β Z a w → ∃ st', K st' ∧ Sat E st' β Z a w ∧ Turn (HS.of st β Z w) (HS.of st' β Z w) ∧ st'.sz = st.sz
 | [], st, a, K, h, hs => ⟨st, h, hs, Turn.refl _, rfl⟩
 | (t, y) :: l, st, a, K, h, hs => by
   simp only [tmwAll] at h
   split at h
   · rename_i x htm
     have hx : RC β Z w x (a.tmps.getD t undef) := by have := hs.tm t; rw [htm] at this; exact this
     have hy := RC.of_RP (β := β) (fitLit_ok h.2.1 (RP.of_RC (chk_iff.1 h.1) hx))
     have hs1 : Sat E { tm := upd st.tm t (.t (.c y)), sz := st.sz, hp := st.hp, nx := st.nx, wl := st.wl } β Z a w := ⟨hs.heap, fun d => by
       show RA β Z w (upd st.tm t (.t (.c y)) d) _
       by_cases e : d = t
       · subst e; rw [upd_same]; exact hy
       · rw [upd_ne _ _ e]; exact hs.tm d, hs.sz⟩
     obtain ⟨st', k1, k2, k3, k4⟩ := tmwAll_ok h.2.2 hs1
     exact ⟨st', k1, k2, k3, k4⟩
   · exact h.elim
theorem pre_code {c : Code} {f : St → (Exit → St → Prop) → Prop} (h : CodeOk P E c f) (l : St → List Nat) (k : St → List (Nat × Blk)) (m : St → List (Nat × CV)) (q : List (Nat × List Int)) : CodeOk P E c (fun st Q => wkAll (k st) (frzAllD (l st) st) fun st => tmwAll (m st) st fun st => csAll q st fun st => f st Q) := by
 intro st Q hf ro B0 β Z a w hs hm hro
 obtain ⟨Z', h1, h2, h3⟩ := frzAllD_ok (l := l st) hs
 obtain ⟨st0, j1, j2, j3, j4⟩ := wkAll_ok hf h1
 obtain ⟨st2, m1, m2, m3, m4⟩ := tmwAll_ok j1 j2
 obtain ⟨st1, k1, k2, k3, k4⟩ := csAll_ok m1 m2
 have t := ((h2.trans j3).trans m3).trans k3
 refine wpIn_mono (h st1 Q k1 ro B0 β Z' a w k2 (hm.turn t) hro) fun e a' w' hp => ?_
 obtain ⟨st', β', Z2, q1, q2, q3, q4, q5, q6⟩ := hp
 exact ⟨st', β', Z2, q1, q2, t.trans q3, q4.trans (k4.trans (m4.trans (j4.trans h3))), q5, q6⟩
theorem list_ok (hE : EnvOk P E) (hI : InlOk P E inl) (hIf : InlFn E inl) (hY : YldOk P E yld) (id : Nat) (ops : Array Oper) : CodeOk P E (.region id ops false) (fun st Q => vcOps E inl yld ops.toList ops.toList (fun _ => none) st (Q .normal)) := by
 intro st Q h ro B0 β Z a w hs hm _
 refine wpIn_region_list (ops_sound hE hI hIf hY (x0 := HS.of st β Z w) (sz := st.sz) (a0 := a) (K := Q .normal) (fun st' β' Z' a' w' hk hs' ht hsz hkeep hdef => ⟨st', β', Z', hk, hs', ht, hsz, fun t hw => hkeep t (fun o ho e => ?_), by rw [hdef]; exact hm.turn ht⟩)
   ops.toList (fun o h => h) (fun _ => none) st β Z a w h (fun d b h => by simp at h) hs (Turn.refl _) rfl (fun _ _ => rfl) rfl)
 simp only [writes, List.any_eq_false] at hw
 have := hw o ho
 rw [e] at this
 simp at this
theorem walk_ok (hE : EnvOk P E) (hI : InlOk P E inl) (hIf : InlFn E inl) (hY : YldOk P E yld) (hD : DrawOk P E inl yld) (fid : FuncId) (c : Code) : CodeOk P E c (walk E fid inl yld c) := by
 induction c with
 | skip => exact fun st Q h ro B0 β Z a w hs hm _ => wpIn_skip ⟨st, β, Z, h, hs, Turn.refl _, rfl, fun _ _ => rfl, hm⟩
 | label l => exact fun st Q h ro B0 β Z a w hs hm _ => wpIn_label ⟨st, β, Z, h, hs, Turn.refl _, rfl, fun _ _ => rfl, hm⟩
 | ret => exact fun st Q h ro B0 β Z a w hs hm _ => wpIn_ret ⟨st, β, Z, h, hs, Turn.refl _, rfl, fun _ _ => rfl, hm⟩
 | exit id => exact fun st Q h ro B0 β Z a w hs hm _ => wpIn_exit ⟨st, β, Z, h, hs, Turn.refl _, rfl, fun _ _ => rfl, hm⟩
 | goto l => exact fun st Q h => h.elim
 | scope c ih =>
   intro st Q h ro B0 β Z a w hs hm hro
   simp only [walk] at h
   refine wpIn_scope (wpIn_mono (ih _ _ h ro B0 β Z a w hs hm hro) fun e a1 w1 hp1 => ?_)
   obtain ⟨st1, β1, Z1, hq, hs1, ht1, hsz1, hk1, hm1⟩ := hp1
   cases e with
   | goto => exact hq.elim
   | normal => exact ⟨st1, β1, Z1, hq, hs1, ht1, hsz1, hk1, hm1⟩
   | exit => exact ⟨st1, β1, Z1, hq, hs1, ht1, hsz1, hk1, hm1⟩
   | ret => exact ⟨st1, β1, Z1, hq, hs1, ht1, hsz1, hk1, hm1⟩
   | panic => exact ⟨st1, β1, Z1, hq, hs1, ht1, hsz1, hk1, hm1⟩
   | outgrown => exact ⟨st1, β1, Z1, hq, hs1, ht1, hsz1, hk1, hm1⟩
 | refuse s => exact fun st Q h => h.elim
 | rangeFunc f ps asg body => exact range_ok hE hI hIf
 | loop c ih => exact loop_ok ih
 | region id ops draw =>
   cases draw with
   | true =>
     intro st Q h ro B0 β Z a w hs hm hro
     simp only [walk] at h
     refine pre_code (f := fun st Q => withBefores (fun bs => match (loose ops.toList bs && !(E.any fid id)) || E.every fid id with
       | true => vcAny E inl yld ops.toList ops.size 0 st (Q .normal)
       | false => (match orderly ops.toList bs with
         | true => vcDraw E inl yld ops.toList bs (E.old fid id st) ops.toList 0 st.nx 0 (fun _ => none) st (Q .normal)
         | false => False)) ops.toList []) (fun st Q h => ?_) (fun _ => E.frz fid id) (fun st => E.wk fid id st) (fun st => E.tmw fid id st) (E.cs fid id) st Q h ro B0 β Z a w hs hm hro
     obtain ⟨bs, h⟩ := withBefores_ok h
     split at h
     · exact hD.2 id ops st Q h
     · split at h
       · rename_i ho
         exact hD.1 id ops bs (E.old fid id) ho st Q h
       · exact h.elim
   | false =>
     intro st Q h ro B0 β Z a w hs hm hro
     exact pre_code (list_ok hE hI hIf hY id ops) (fun _ => E.frz fid id) (fun st => E.wk fid id st) (fun st => E.tmw fid id st) (E.cs fid id) st Q h ro B0 β Z a w hs hm hro
 | seq x y ihx ihy =>
   intro st Q h ro B0 β Z a w hs hm hro
   have wr : ∀ t, writes (.seq x y) t = false → writes x t = false ∧ writes y t = false := fun t h => by simpa [writes] using h
   simp only [walk] at h
   split at h
   · refine wpIn_seq (wpIn_mono (ihx _ _ h ro B0 β Z a w hs hm hro) fun e a1 w1 hp1 => ?_)
     obtain ⟨st1, β1, Z1, hq, hs1, ht1, hsz1, hk1, hm1⟩ := hp1
     cases e with
     | normal => exact wpIn_mono (ihy _ _ hq ro B0 β1 Z1 a1 w1 hs1 hm1 (hro.turn ht1)) fun e a2 w2 h2 => Post.then_ ht1 hsz1 hk1 h2 wr
     | exit => exact ⟨st1, β1, Z1, hq, hs1, ht1, hsz1, fun t h => hk1 t (wr t h).1, hm1⟩
     | ret => exact ⟨st1, β1, Z1, hq, hs1, ht1, hsz1, fun t h => hk1 t (wr t h).1, hm1⟩
     | goto => exact ⟨st1, β1, Z1, hq, hs1, ht1, hsz1, fun t h => hk1 t (wr t h).1, hm1⟩
     | panic => exact ⟨st1, β1, Z1, hq, hs1, ht1, hsz1, fun t h => hk1 t (wr t h).1, hm1⟩
     | outgrown => exact ⟨st1, β1, Z1, hq, hs1, ht1, hsz1, fun t h => hk1 t (wr t h).1, hm1⟩
   · rename_i A _
     obtain ⟨hx, hy⟩ := h
     have hs0 : Sat E { st with wl := [] } β Z a w := ⟨hs.heap, hs.tm, hs.sz⟩
     refine wpIn_seq (wpIn_mono (ihx _ _ hx ro B0 β Z a w hs0 hm hro) fun e a1 w1 hp1 => ?_)
     obtain ⟨st1, β1, Z1, hq, hs1, ht1, hsz1, hk1, hm1⟩ := hp1
     have T1 : Turn (HS.of st β Z w) ⟨β1, Z1, st1.hp, st1.nx, st1.wl ++ st.wl, w1⟩ :=
       ⟨ht1.ev, ht1.ext, ht1.own, ht1.zown, ht1.nx, fun n hn => List.mem_append.2 (.inr hn), fun n hn hw => ht1.frame n hn (fun hh => hw (List.mem_append.2 (.inl hh)))⟩
     have leave : ∀ {e : Exit}, Q e { st1 with wl := st1.wl ++ st.wl } → Post E B0 Q (.seq x y) (HS.of st β Z w) st.sz a e a1 w1 := fun hq =>
       ⟨{ st1 with wl := st1.wl ++ st.wl }, β1, Z1, hq, ⟨hs1.heap, hs1.tm, hs1.sz⟩, T1, hsz1, fun t h => hk1 t (wr t h).1, hm1⟩
     cases e with
     | normal =>
       obtain ⟨g, hok, hcome⟩ := hq
       have hcome2 := hcome
       obtain ⟨hchk, _, _⟩ := hcome2
       have hchk := chk_iff.1 hchk
       simp only [Bool.and_eq_true, List.all_eq_true, Bool.or_eq_true, List.any_eq_true] at hchk
       obtain ⟨_, hwl⟩ := hchk
       have kept : ∀ n, n < st.nx → n ∉ A.dom st → st1.hp n = st.hp n := fun n hn hnd => by
         have hnw : n ∉ st1.wl := fun hmem => by
           rcases hwl n hmem with h1 | ⟨x, hx, h1⟩
           · exact absurd (Nat.le_of_ble_eq_true h1) (by omega)
           · rw [Nat.eq_of_beq_eq_true h1] at hnd; exact hnd hx
         exact ht1.frame n hn hnw
       obtain ⟨β2, k1, k2⟩ := arrive (c := x) (st1 := st1) (a1 := a1) hs hs1.heap hs1.tm (by rw [hs1.sz, hsz1]) ht1.ev ht1.ext ht1.own ht1.zown kept hk1 hcome
       obtain ⟨m0, l, ml, mn, mr⟩ := hm1
       have hm2 : Marks B0 (HS.of (headSt A x st g) β2 Z1 w1) a1.defers := ⟨m0, l, ml, mn, fun r hr => by
         obtain ⟨q0, q1, q2, q3⟩ := mr r hr
         exact ⟨q0, q1, not_own_deferred k1.heap q1, q3⟩⟩
       have k2' : Turn (HS.of st β Z w) ⟨β2, Z1, (headSt A x st g).hp, st.nx + 16, A.dom st ++ st.wl, w1⟩ := k2
       refine wpIn_mono (ihy _ _ (hy g hok) ro B0 β2 Z1 a1 w1 k1 hm2 (hro.turn k2)) fun e a2 w2 h2 => ?_
       obtain ⟨st2, β3, Z3, z1, z2, z3, z4, z5, z6⟩ := h2
       have T3 : Turn ⟨β2, Z1, (headSt A x st g).hp, st.nx + 16, A.dom st ++ st.wl, w1⟩ ⟨β3, Z3, st2.hp, st2.nx, st2.wl ++ (A.dom st ++ st.wl), w2⟩ :=
         ⟨z3.ev, z3.ext, z3.own, z3.zown, z3.nx, fun n hn => List.mem_append.2 (.inr hn), fun n hn hw => z3.frame n hn (fun hh => hw (List.mem_append.2 (.inl hh)))⟩
       exact ⟨{ st2 with wl := st2.wl ++ (A.dom st ++ st.wl) }, β3, Z3, z1, ⟨z2.heap, z2.tm, z2.sz⟩, k2'.trans T3, z4, fun t h => (z5 t (wr t h).2).trans (hk1 t (wr t h).1), z6⟩
     | exit => exact leave hq
     | ret => exact leave hq
     | goto => exact leave hq
     | panic => exact leave hq
     | outgrown => exact leave hq
 | cond c x y ihx ihy =>
   intro st Q h ro B0 β Z a w hs hm hro
   have wr : ∀ t, writes (.cond c x y) t = false → writes x t = false ∧ writes y t = false := fun t h => by simpa [writes] using h
   have goT : walk E fid inl yld x st Q → a.eval c = .bool true → (Code.cond c x y).wpIn (Fn ro) 0 P (Post E B0 Q (.cond c x y) (HS.of st β Z w) st.sz a) a w := fun h hc =>
     wpIn_cond_true hc (wpIn_mono (ihx _ _ h ro B0 β Z a w hs hm hro) fun e a' w' hp => hp.mono (fun _ h => h) (fun t h => (wr t h).1))
   have goF : walk E fid inl yld y st Q → a.eval c = .bool false → (Code.cond c x y).wpIn (Fn ro) 0 P (Post E B0 Q (.cond c x y) (HS.of st β Z w) st.sz a) a w := fun h hc =>
     wpIn_cond_false hc (wpIn_mono (ihy _ _ h ro B0 β Z a w hs hm hro) fun e a' w' hp => hp.mono (fun _ h => h) (fun t h => (wr t h).2))
   cases c with
   | tmp c =>
     obtain ⟨_, t, h1, h2, _⟩ := split_ok h (hs.tm c) (fun d b h => by simp at h)
     cases t with
     | true => exact goT h1 h2
     | false => exact goF h1 h2
   | const v =>
     simp only [walk] at h
     split at h
     · rename_i hv; exact goT h (RC.lit (Z := Z) (w := w) hv)
     · rename_i hv; exact goF h (RC.lit (Z := Z) (w := w) hv)
     · exact h.elim
   | global g => exact h.elim
   | func f => exact h.elim
 | block id c ih =>
   intro st Q h ro B0 β Z a w hs hm hro
   refine wpIn_block (wpIn_mono (ih _ _ h ro B0 β Z a w hs hm hro) fun e a1 w1 hp1 => ?_)
   obtain ⟨st1, β1, Z1, hq, hs1, ht1, hsz1, hk1, hm1⟩ := hp1
   cases e with
   | exit id' =>
     simp only [Exit.inBlock]
     simp only at hq
     split at hq
     · rename_i hb
       rw [if_pos (Nat.eq_of_beq_eq_true hb)]
       exact ⟨st1, β1, Z1, hq, hs1, ht1, hsz1, hk1, hm1⟩
     · rename_i hb
       rw [if_neg (fun e => by subst e; rw [Nat.beq_refl] at hb; simp at hb)]
       exact ⟨st1, β1, Z1, hq, hs1, ht1, hsz1, hk1, hm1⟩
   | normal => exact ⟨st1, β1, Z1, hq, hs1, ht1, hsz1, hk1, hm1⟩
   | ret => exact ⟨st1, β1, Z1, hq, hs1, ht1, hsz1, hk1, hm1⟩
   | goto => exact ⟨st1, β1, Z1, hq, hs1, ht1, hsz1, hk1, hm1⟩
   | panic => exact ⟨st1, β1, Z1, hq, hs1, ht1, hsz1, hk1, hm1⟩
   | outgrown => exact ⟨st1, β1, Z1, hq, hs1, ht1, hsz1, hk1, hm1⟩
theorem vc_ok (hE : EnvOk P E) (hD : ∀ inl yld, InlOk P E inl → InlFn E inl → YldOk P E yld → DrawOk P E inl yld) : ∀ (fuel : Nat) (fid : FuncId) (c : Code), CodeOk P E c (vc E fuel fid c)
 | 0, _, _ => fun _ _ h => h.elim
 | fuel + 1, fid, c => walk_ok hE (inl_ok hE (vc_ok hE hD fuel)) inl_fn (yld_ok (vc_ok hE hD fuel)) (hD _ _ (inl_ok hE (vc_ok hE hD fuel)) inl_fn (yld_ok (vc_ok hE hD fuel))) fid c
theorem fit1_ok {B : Nat} {Fr : Nat → Prop} (h : SatH E B Fr β Z hp w) {x y : TV} {v : Value} (hf : fit1 hp x y) (hx : RT β Z w x v) {l : List Nat} (hl : ∀ n, n ∈ ownTV x → n ∈ l) : RT β' (Zargs β Z hp l) w y v := by
 unfold fit1 at hf
 split at hf
 · rename_i x' hx'
   exact fitTV_ok (β1 := β') named_bad hf (pureTV_ok h (fun _ _ h => h) hx hl hx')
 · exact hf.elim
theorem fitAll_ok {B : Nat} {Fr : Nat → Prop} (h : SatH E B Fr β Z hp w) {l : List Nat} : ∀ {xs : List TV} {rs : List RV}, fitAll hp xs rs → (∀ n, n ∈ ownTVs xs → n ∈ l) → ownCount rs = 0 ∧ resHp (fun _ => none) rs 0 = (fun _ => none) ∧ xs.length = (resTVs rs 0).length ∧
   ∀ (i : Nat) (x y : TV) (v : Value), xs[i]? = some x → (resTVs rs 0)[i]? = some y → RT β Z w x v → RT β' (Zargs β Z hp l) w y v
 | [], [], _, _ => ⟨rfl, rfl, rfl, fun i x y v h => by simp at h⟩
 | [], .v _ :: _, h, _ => h.elim
 | [], .own _ _ _ _ :: _, h, _ => h.elim
 | _ :: _, [], h, _ => h.elim
 | _ :: _, .own _ _ _ _ :: _, h, _ => h.elim
 | x :: xs, .v y :: rs, hf, hl => by
   obtain ⟨h1, h2, h3, h4⟩ := fitAll_ok h hf.2 (fun n hn => hl n (by simp [ownTVs, hn]))
   refine ⟨h1, h2, by simp [resTVs, h3], fun i x' y' v hx hy hr => ?_⟩
   cases i with
   | zero =>
     simp [resTVs] at hx hy
     subst hx; subst hy
     exact fit1_ok h hf.1 hr (fun n hn => hl n (by simp [ownTVs, hn]))
   | succ i =>
     simp [resTVs] at hx hy
     exact h4 i x' y' v hx hy hr
theorem callQ_of (hE : EnvOk P E) (hD : ∀ inl yld, InlOk P E inl → InlFn E inl → YldOk P E yld → DrawOk P E inl yld) {fuel : Nat} {f : FuncId} {args : List TV} {rs : List RV}
   (h : inlOf E (vc E fuel) f args (fun _ => none) 0 [] (fun v hp _ _ => resFit hp v rs)) : CallQ P E f args rs := by
 intro Z w vs hsat hr
 let x : HS := ⟨fun _ => .no, Z, fun _ => none, 0, [], w⟩
 have xok : x.ok E := hsat.weaken (fun _ _ => trivial)
 refine CallsIn.mono (inl_ok hE (vc_ok hE hD fuel) f args x _ h xok vs hr) fun e w' hpost => ?_
 obtain ⟨val, v, y, rfl, hk, rfl, yok, yv, yt⟩ := hpost
 have noOwn : ∀ b, ¬ Own x.β x.hp b := fun b ⟨n, blk, ln, h, _⟩ => by simp [x] at h
 have evy : Evo (fun _ => False) Z w y.Z y.w := yt.ev.weaken (fun b h => (noOwn b h).elim)
 have pureCase : ∀ (l : List Nat), ownCount rs = 0 → resHp (fun _ => none) rs 0 = (fun _ => none) → RA (fun _ => .no) (Zargs y.β y.Z y.hp l) y.w (resAV (resTVs rs 0)) val →
     ∃ val' β' Z', Ending.returned val = .returned val' ∧ SatH E 0 (fun n => ownCount rs ≤ n) β' Z' (resHp (fun _ => none) rs 0) y.w ∧ RA β' Z' y.w (resAV (resTVs rs 0)) val' ∧
     Evo (fun _ => False) Z w Z' y.w ∧ (∀ b, Own β' (resHp (fun _ => none) rs 0) b → w.heap.size ≤ b) ∧ (∀ b, Z' b → Z b ∨ w.heap.size ≤ b) := by
   intro l h0 h1 h2
   have hz : ∀ b, y.Z b → Zargs y.β y.Z y.hp l b := fun b hb => .inl hb
   refine ⟨val, fun _ => .no, Zargs y.β y.Z y.hp l, rfl, ?_, h2, ⟨evy.os, evy.tape, evy.output, evy.size, evy.same, evy.rows, evy.loops, fun b hb => hz b (evy.zmono b hb)⟩, fun b hb => ?_, fun b hb => ?_⟩
   · rw [h1]
     exact ⟨fun n blk h => by simp at h, fun n blk b ln h => by simp at h, fun n m x y b l1 l2 h => by simp at h, fun b hb => Zargs.lt yok b hb, fun _ _ => rfl, yok.gl.mono (own := fun _ => False) (Evo.zup hz) (fun b hb => ⟨yok.zlt b hb, fun h => h⟩)⟩
   · rw [h1] at hb
     obtain ⟨n, blk, ln, h, _⟩ := hb
     simp at h
   · rcases hb with hb | ⟨n, blk, ln, _, h3, h4⟩
     · rcases yt.zown b hb with h | h | h
       · exact .inl h
       · exact (noOwn b h).elim
       · exact .inr h
     · rcases yt.own b ⟨n, blk, ln, h3, h4⟩ with h | h
       · exact (noOwn b h).elim
       · exact .inr h
 have many : isTup v (fun l => fitAll y.hp l rs) → (resTVs rs 0).length ≠ 1 → ∃ val' β' Z', Ending.returned val = .returned val' ∧ SatH E 0 (fun n => ownCount rs ≤ n) β' Z' (resHp (fun _ => none) rs 0) y.w ∧ RA β' Z' y.w (resAV (resTVs rs 0)) val' ∧
     Evo (fun _ => False) Z w Z' y.w ∧ (∀ b, Own β' (resHp (fun _ => none) rs 0) b → w.heap.size ≤ b) ∧ (∀ b, Z' b → Z b ∨ w.heap.size ≤ b) := by
   intro hk hne
   cases v with
   | tup l =>
     obtain ⟨h1, h2, h3, h4⟩ := fitAll_ok (β' := fun _ => .no) (l := ownTVs l) yok hk (fun n hn => hn)
     obtain ⟨us, rfl, u1, u2⟩ := yv
     refine pureCase (ownTVs l) h1 h2 ?_
     have : resAV (resTVs rs 0) = .tup (resTVs rs 0) := by
       match hh : resTVs rs 0, hne with
       | [], _ => rfl
       | [_], hne => simp at hne
       | _ :: _ :: _, _ => rfl
     rw [this]
     refine ⟨us, rfl, by rw [u1, h3], fun i y' hy' => ?_⟩
     have hlt : i < l.length := by rw [h3]; exact (List.getElem?_eq_some_iff.1 hy').1
     obtain ⟨u, hu, hr⟩ := u2 i l[i] (by simp [hlt])
     exact ⟨u, hu, h4 i l[i] y' u (by simp [hlt]) hy' hr⟩
   | any => exact hk.elim
   | t => exact hk.elim
 have four : (∃ y0, rs = [.v y0]) ∨ (∃ e size len get, rs = [.own e size len get]) ∨ (∃ e size len get y0, rs = [.own e size len get, .v (.c y0)]) ∨ ((resTVs rs 0).length ≠ 1 ∧ resFit y.hp v rs = isTup v (fun l => fitAll y.hp l rs)) := by
   match rs with
   | [] => exact .inr (.inr (.inr ⟨by simp [resTVs], rfl⟩))
   | [.v y0] => exact .inl ⟨y0, rfl⟩
   | [.own e s l g] => exact .inr (.inl ⟨e, s, l, g, rfl⟩)
   | [.own e s l g, .v (.c z)] => exact .inr (.inr (.inl ⟨e, s, l, g, z, rfl⟩))
   | [.own _ _ _ _, .v (.a _ _)] => exact .inr (.inr (.inr ⟨by simp [resTVs], rfl⟩))
   | .own _ _ _ _ :: .v t :: _ :: _ => exact .inr (.inr (.inr ⟨by simp [resTVs], by cases t <;> rfl⟩))
   | .own _ _ _ _ :: .own _ _ _ _ :: _ => exact .inr (.inr (.inr ⟨by simp [resTVs], rfl⟩))
   | .v _ :: b :: _ => exact .inr (.inr (.inr ⟨by cases b <;> simp [resTVs], by cases b <;> rfl⟩))
 have ownCase : ∀ (e : TypeId) (size len : Nat) (get : Nat → Nat → CV) (l : Loc), resHp (fun _ => none) rs 0 = upd (fun _ => none) 0 (some (.row e size len get)) → ownCount rs = 1 → RB y.β y.Z y.w l (.row e size len get) → (∀ b ln, l = .at b ln → b < y.w.heap.size ∧ ¬ y.Z b ∧ w.heap.size ≤ b) →
     (∀ β' : Nat → Loc, β' 0 = l → RA β' y.Z y.w (resAV (resTVs rs 0)) val) →
     ∃ val' β' Z', Ending.returned val = .returned val' ∧ SatH E 0 (fun n => ownCount rs ≤ n) β' Z' (resHp (fun _ => none) rs 0) y.w ∧ RA β' Z' y.w (resAV (resTVs rs 0)) val' ∧
     Evo (fun _ => False) Z w Z' y.w ∧ (∀ b, Own β' (resHp (fun _ => none) rs 0) b → w.heap.size ≤ b) ∧ (∀ b, Z' b → Z b ∨ w.heap.size ≤ b) := by
   intro e size len get l hhp hcnt hrb hl hv
   rw [hhp, hcnt]
   have hpget : ∀ n blk, upd (fun _ => none) 0 (some (Blk.row e size len get)) n = some blk → n = 0 ∧ blk = .row e size len get := fun n blk hn => by
     by_cases e0 : n = 0
     · subst e0; rw [upd_same] at hn; simp at hn; exact ⟨rfl, hn.symm⟩
     · rw [upd_ne _ _ e0] at hn; simp at hn
   refine ⟨val, upd (fun _ => .no) 0 l, y.Z, rfl, ⟨fun n blk hn => ?_, fun n blk b ln hn hb => ?_, fun n m x1 y1 b l1 l2 hn hm _ _ => by rw [(hpget n _ hn).1, (hpget m _ hm).1], yok.zlt, fun n (hn : 1 ≤ n) => upd_ne _ _ (by omega), yok.gl⟩, hv _ (upd_same ..), evy, fun b hb => ?_, fun b hb => ?_⟩
   · obtain ⟨rfl, rfl⟩ := hpget n blk hn
     rw [upd_same]
     cases l with
     | no => exact hrb.elim
     | virt => exact hrb
     | «at» b ln => exact hrb
   · obtain ⟨rfl, rfl⟩ := hpget n blk hn
     rw [upd_same] at hb
     obtain ⟨q1, q2, _⟩ := hl b ln hb
     exact ⟨q1, q2, Nat.zero_le _⟩
   · obtain ⟨n, blk, ln, hn, hb⟩ := hb
     obtain ⟨rfl, rfl⟩ := hpget n blk hn
     rw [upd_same] at hb
     exact (hl b ln hb).2.2
   · rcases yt.zown b hb with h | h | h
     · exact .inl h
     · exact (noOwn b h).elim
     · exact .inr h
 have ownAt : ∀ (x0 : TV) (v0 : Value) (e : TypeId) (size len : Nat) (get : Nat → Nat → CV), fitOwn y.hp x0 e size len get → RT y.β y.Z y.w x0 v0 →
     ∃ l, RB y.β y.Z y.w l (.row e size len get) ∧ (∀ b ln, l = .at b ln → b < y.w.heap.size ∧ ¬ y.Z b ∧ w.heap.size ≤ b) ∧ ROs y.w l size len v0 := by
   intro x0 v0 e size len get hk' yv
   unfold fitOwn at hk'
   split at hk'
   · rename_i n s l
     obtain ⟨h1, rfl, h2⟩ := hk'
     obtain rfl := Nat.eq_of_beq_eq_true (chk_iff.1 h1)
     split at h2
     · rename_i b hb
       refine ⟨y.β n, fitBlk_ok named_bad h2 (yok.rb n b hb), fun b' ln hb' => ?_, yv⟩
       obtain ⟨g1, g2, _⟩ := yok.own n b b' ln hb hb'
       refine ⟨g1, g2, ?_⟩
       rcases yt.own b' ⟨n, b, ln, hb, hb'⟩ with h | h
       · exact (noOwn b' h).elim
       · exact h
     · exact h2.elim
   · subst hk'
     exact ⟨.virt, rfl, fun b ln h => by simp at h, yv, rfl⟩
   · exact hk'.elim
 rcases four with ⟨y0, rfl⟩ | ⟨e, size, len, get, rfl⟩ | ⟨e, size, len, get, y0, rfl⟩ | ⟨h1, h2⟩
 · cases v with
   | t x0 => exact pureCase (ownTV x0) rfl rfl (fit1_ok yok hk yv (fun n hn => hn))
   | any => exact hk.elim
   | tup => exact hk.elim
 · cases v with
   | any => exact hk.elim
   | tup => exact hk.elim
   | t x0 =>
     obtain ⟨l, a1, a2, a3⟩ := ownAt x0 val e size len get hk yv
     exact ownCase e size len get l rfl rfl a1 a2 (fun β' hb => by
       show ROs y.w (β' 0) size len val
       rw [hb]; exact a3)
 · cases v with
   | any => exact hk.elim
   | t x0 => exact hk.elim
   | tup l0 =>
     match l0, hk, yv with
     | [x0, .c z], hk, yv =>
       obtain ⟨k1, k2, k3, k4⟩ := hk
       obtain ⟨vs, rfl, hsz, hvs⟩ := yv
       obtain ⟨u0, g0, r0⟩ := hvs 0 x0 rfl
       obtain ⟨u1, g1, r1⟩ := hvs 1 (.c z) rfl
       obtain ⟨l, a1, a2, a3⟩ := ownAt x0 u0 e size len get k1 r0
       refine ownCase e size len get l rfl rfl a1 a2 (fun β' hb => ⟨vs, rfl, hsz, fun i x hx => ?_⟩)
       match i, hx with
       | 0, hx =>
         obtain rfl : TV.c (.os 0 size len) = x := by simpa [resTVs] using hx
         refine ⟨u0, g0, ?_⟩
         show ROs y.w (β' 0) size len u0
         rw [hb]; exact a3
       | 1, hx =>
         obtain rfl : TV.c y0 = x := by simpa [resTVs] using hx
         exact ⟨u1, g1, RC.of_RP (fitP_ok k4 (flat_any (β' := β') (w' := y.w) (Z' := y.Z) (chk_iff.1 k2) r1).2)⟩
       | i + 2, hx => simp [resTVs] at hx
     | [], hk, _ => exact hk.elim
     | [_], hk, _ => exact hk.elim
     | [_, .a _ _], hk, _ => exact hk.elim
     | _ :: .c _ :: _ :: _, hk, _ => exact hk.elim
     | _ :: .a _ _ :: _ :: _, hk, _ => exact hk.elim
 · rw [h2] at hk
   exact many hk h1
theorem finSrc_eq {R : KSpec} {g : R.γ} {hp : Hp} {m : Nat} : finSrc R g hp m = (match R.mv with | none => selfSrc (lenR (R.hp g)) m | some q => match Nat.beq m q with | true => mvSrc hp (rwsOf (R.hp g)) q | false => selfSrc (lenR (R.hp g)) m) := by
 unfold finSrc; cases R.mv <;> rfl
theorem semK_end {R : KSpec} {g : R.γ} {vs : List Value} (hsat : SatH E 0 (fun m => lenR (R.hp g) ≤ m) β Z (canonHp (R.hp g)) w) (_ : RL β Z w (R.arg g) vs) {v : AV} {val : Value} {y : HS} (hk : keptFit R g v y.hp) (yok : y.ok E) (yv : RA y.β y.Z y.w v val) (yext : Ext β y.β) (yown : ∀ b, Own y.β y.hp b → Own β (canonHp (R.hp g)) b ∨ w.heap.size ≤ b) (yev : Evo (Own β (canonHp (R.hp g))) Z w y.Z y.w) (yz : ∀ b, y.Z b → Z b ∨ Own β (canonHp (R.hp g)) b ∨ w.heap.size ≤ b) :
   ∃ val' d Z' βf, Ending.returned val = .returned val' ∧ R.post g d ∧ lenB (R.fin g d) = lenR (R.hp g) ∧ (∀ m, R.mv ≠ some m → βf m = β m) ∧
     SatH E 0 (fun m => lenR (R.hp g) ≤ m) βf Z' (canonB (R.fin g d)) y.w ∧ (∀ b, Own βf (canonB (R.fin g d)) b → Own β (canonHp (R.hp g)) b ∨ w.heap.size ≤ b) ∧
     RA (fun _ => .no) Z' y.w (resAV (R.res g d)) val' ∧ Evo (Own β (canonHp (R.hp g))) Z w Z' y.w ∧ (∀ b, Z' b → Z b ∨ Own β (canonHp (R.hp g)) b ∨ w.heap.size ≤ b) := by
 obtain ⟨d, hpost, hck, hfin, hres⟩ := hk
 have hck := chk_iff.1 hck
 rw [Bool.and_eq_true] at hck
 have hlen := Nat.eq_of_beq_eq_true hck.1
 have hap := hck.2
 have known : ∀ m, m < lenR (R.hp g) → ∃ b, canonHp (R.hp g) m = some b ∧ β m ≠ .no ∧ y.β m = β m := fun m hm => by
   obtain ⟨b, hb⟩ := canonHp_some hm
   have hrb := hsat.rb m b hb
   have hne : β m ≠ .no := fun e => by rw [e] at hrb; cases b <;> exact hrb.elim
   exact ⟨b, hb, hne, yext m hne⟩
 let ρ : Nat → Src := finSrc R g y.hp
 let βf : Nat → Loc := fun m => match ρ m with | .nm n => y.β n | .virt => .virt | .bad => .no
 have hρ : Named ρ y.β βf := by
   refine ⟨fun m n e => ?_, fun m e => ?_⟩
   · show (match ρ m with | .nm n => y.β n | .virt => .virt | .bad => .no) = _; rw [e]
   · show (match ρ m with | .nm n => y.β n | .virt => .virt | .bad => .no) = _; rw [e]
 have self_of : ∀ {m}, R.mv ≠ some m → ρ m = selfSrc (lenR (R.hp g)) m := fun {m} hm => by
   show finSrc R g y.hp m = _
   rw [finSrc_eq]
   split
   · rfl
   · rename_i q hq
     cases e : Nat.beq m q with
     | true => exact absurd (by rw [hq, Nat.eq_of_beq_eq_true e]) hm
     | false => rfl
 have self_lt : ∀ {m}, m < lenR (R.hp g) → selfSrc (lenR (R.hp g)) m = .nm m := fun {m} hm => by
   unfold selfSrc
   have : Nat.blt m (lenR (R.hp g)) = true := Nat.ble_eq_true_of_le hm
   rw [this]
 have self_ge : ∀ {m}, lenR (R.hp g) ≤ m → selfSrc (lenR (R.hp g)) m = .bad := fun {m} hm => by
   unfold selfSrc
   split
   · rename_i h; exact absurd (Nat.le_of_ble_eq_true h) (by omega)
   · rfl
 have qlt : ∀ {q}, R.mv = some q → q < lenR (R.hp g) := fun {q} hq => by
   unfold finApart at hap
   rw [hq] at hap
   have hap : (Nat.blt q (lenR (R.hp g)) && _) = true := hap
   rw [Bool.and_eq_true] at hap
   exact Nat.le_of_ble_eq_true hap.1
 have ge_bad : ∀ {m}, lenR (R.hp g) ≤ m → ρ m = .bad := fun {m} hm => by
   rw [self_of fun e => by have := qlt e; omega]
   exact self_ge hm
 have one_of : ∀ {m n}, ρ m = .nm n → m < lenR (R.hp g) ∧ (n = m ∨ (R.mv = some m ∧ (n = m ∨ lenR (R.hp g) ≤ n))) := fun {m n} e => by
   have hlt : m < lenR (R.hp g) := by
     apply Nat.lt_of_not_le
     intro hle
     rw [ge_bad hle] at e; cases e
   refine ⟨hlt, ?_⟩
   by_cases hq : R.mv = some m
   · refine .inr ⟨hq, ?_⟩
     have e' : finSrc R g y.hp m = .nm n := e
     rw [finSrc_eq, hq] at e'
     have e' : (match Nat.beq m m with | true => mvSrc y.hp (rwsOf (R.hp g)) m | false => selfSrc (lenR (R.hp g)) m) = .nm n := e'
     rw [Nat.beq_refl] at e'
     have e' : mvSrc y.hp (rwsOf (R.hp g)) m = .nm n := e'
     unfold finApart at hap
     rw [hq] at hap
     have hap : (Nat.blt m (lenR (R.hp g)) && (match mvSrc y.hp (rwsOf (R.hp g)) m with | .nm n => Nat.beq n m || Nat.ble (lenR (R.hp g)) n | _ => true)) = true := hap
     rw [e', Bool.and_eq_true] at hap
     have h2 : (Nat.beq n m || Nat.ble (lenR (R.hp g)) n) = true := hap.2
     rw [Bool.or_eq_true] at h2
     exact h2.imp Nat.eq_of_beq_eq_true Nat.le_of_ble_eq_true
   · rw [self_of hq, self_lt hlt] at e
     injection e with e
     exact .inl e.symm
 have inj_of : ∀ {m m' n}, ρ m = .nm n → ρ m' = .nm n → m = m' := fun {m m' n} e e' => by
   obtain ⟨h1, h2⟩ := one_of e
   obtain ⟨h1', h2'⟩ := one_of e'
   rcases h2 with h2 | ⟨q, h2⟩
   · rcases h2' with h2' | ⟨q', h2'⟩
     · omega
     · rcases h2' with h2' | h2' <;> omega
   · rcases h2' with h2' | ⟨q', h2'⟩
     · rcases h2 with h2 | h2 <;> omega
     · rw [q] at q'; injection q'
 have found : ∀ m blk, canonB (R.fin g d) m = some blk → (∃ n b1, ρ m = .nm n ∧ y.hp n = some b1 ∧ fitBlk ρ b1 blk) ∨ (ρ m = .virt ∧ ∃ e s g, blk = .row e s 0 g) := fun m blk hm => by
   have := finFitsM_get hfin hm
   rw [Nat.zero_add] at this
   exact this
 have bat : ∀ {m blk b ln}, canonB (R.fin g d) m = some blk → βf m = .at b ln → ∃ n b1, ρ m = .nm n ∧ y.hp n = some b1 ∧ y.β n = .at b ln := fun {m blk b ln} hm hb => by
   rcases found m blk hm with ⟨n, b1, h1, h2, _⟩ | ⟨h1, _⟩
   · have hb : (match ρ m with | .nm n => y.β n | .virt => .virt | .bad => .no) = .at b ln := hb
     rw [h1] at hb
     exact ⟨n, b1, h1, h2, hb⟩
   · have hb : (match ρ m with | .nm n => y.β n | .virt => .virt | .bad => .no) = .at b ln := hb
     rw [h1] at hb; cases hb
 refine ⟨val, d, y.Z, βf, rfl, hpost, hlen, fun m hm => ?_, ⟨fun m blk hm => ?_, fun m blk b ln hm hb => ?_, fun m m' b1 b2 b l1 l2 hm hm' hb hb' => ?_, yok.zlt, fun m hm => ?_, yok.gl⟩, fun b hb => ?_, ?_, yev, yz⟩
 · show (match ρ m with | .nm n => y.β n | .virt => .virt | .bad => .no) = β m
   rw [self_of hm]
   by_cases hlt : m < lenR (R.hp g)
   · rw [self_lt hlt]
     obtain ⟨_, _, _, hk⟩ := known m hlt
     exact hk
   · rw [self_ge (Nat.le_of_not_lt hlt)]
     exact (hsat.fresh m (Nat.le_of_not_lt hlt)).symm
 · rcases found m blk hm with ⟨n, b1, h1, h2, h3⟩ | ⟨h1, _, _, _, rfl⟩
   · have := fitBlk_ok hρ h3 (yok.rb n b1 h2)
     rw [← hρ.nm m n h1] at this
     exact this
   · show RB βf y.Z y.w (βf m) _
     rw [hρ.virt m h1]
     exact rfl
 · obtain ⟨n, b1, h1, h2, h3⟩ := bat hm hb
   exact yok.own n b1 b ln h2 h3
 · obtain ⟨n, c, h1, h2, h3⟩ := bat hm hb
   obtain ⟨n', c', h1', h2', h3'⟩ := bat hm' hb'
   have := yok.inj n n' c c' b l1 l2 h2 h2' h3 h3'
   subst this
   exact inj_of h1 h1'
 · show (match ρ m with | .nm n => y.β n | .virt => .virt | .bad => .no) = .no
   rw [ge_bad hm]
 · obtain ⟨m, blk, ln, hm, hbm⟩ := hb
   obtain ⟨n, b1, h1, h2, h3⟩ := bat hm hbm
   exact yown b ⟨n, b1, ln, h2, h3⟩
 · unfold fitRes at hres
   split at hres
   · rename_i x0
     split at hres
     · rename_i y0 hl
       rw [hl]
       exact fitTV_ok (β1 := y.β) (β2 := fun _ => .no) named_bad hres yv
     · exact hres.elim
   · rename_i xs
     have tups : recTVs (fun _ => .bad) xs (R.res g d) → RA (fun _ => .no) y.Z y.w (.tup (R.res g d)) val := fun hres => by
       obtain ⟨us, rfl, u1, u2⟩ := yv
       have key : ∀ {xs l : List TV}, recTVs (fun _ => .bad) xs l → xs.length = l.length ∧ ∀ (i : Nat) (y0 : TV), l[i]? = some y0 → ∃ x0, xs[i]? = some x0 ∧ fitTV (fun _ => .bad) x0 y0 := by
         intro xs
         induction xs with
         | nil => intro l h; cases l with
           | nil => exact ⟨rfl, fun i y0 h => by simp at h⟩
           | cons => exact h.elim
         | cons a xs ih => intro l h; cases l with
           | nil => exact h.elim
           | cons c l =>
             obtain ⟨k1, k2⟩ := ih h.2
             refine ⟨by simp [k1], fun i y0 hy => ?_⟩
             cases i with
             | zero => simp at hy; subst hy; exact ⟨a, by simp, h.1⟩
             | succ i => obtain ⟨x0, q1, q2⟩ := k2 i y0 (by simpa using hy); exact ⟨x0, by simpa using q1, q2⟩
       obtain ⟨k1, k2⟩ := key hres
       refine ⟨us, rfl, by rw [u1, k1], fun i y0 hy => ?_⟩
       obtain ⟨x0, q1, q2⟩ := k2 i y0 hy
       obtain ⟨u, hu, hr⟩ := u2 i x0 q1
       exact ⟨u, hu, fitTV_ok (β1 := y.β) (β2 := fun _ => .no) named_bad q2 hr⟩
     split at hres
     · exact hres.elim
     · rename_i hne
       have : resAV (R.res g d) = .tup (R.res g d) := by
         match hh : R.res g d, hne with
         | [], _ => rfl
         | [z], hne => exact absurd rfl (hne z)
         | _ :: _ :: _, _ => rfl
       rw [this]
       exact tups hres
   · exact hres.elim
theorem semK_of (hE : EnvOk P E) (hD : ∀ inl yld, InlOk P E inl → InlFn E inl → YldOk P E yld → DrawOk P E inl yld) {fuel : Nat} {f : FuncId} {R : KSpec} {g : R.γ}
   (h : inlBody E (vc E fuel) f (R.arg g) (canonHp (R.hp g)) (lenR (R.hp g)) [] (fun v hp _ _ => keptFit R g v hp)) : SemK P E f R g := by
 intro Z β w vs hsat hr
 let x : HS := ⟨β, Z, canonHp (R.hp g), lenR (R.hp g), [], w⟩
 have xok : x.ok E := hsat
 refine CallsIn.mono (inlBody_ok hE (vc_ok hE hD fuel) f (R.arg g) x _ h xok vs hr) fun e w' hpost => ?_
 obtain ⟨val, v, y, rfl, hk, rfl, yok, yv, yt⟩ := hpost
 exact semK_end hsat hr hk yok yv yt.ext yt.own yt.ev (fun b hb => yt.zown b hb)
theorem finFitsM_of {len : Nat} {hp : Hp} : ∀ {l : List Blk} {k : Nat}, finFits len hp k l → k + lenB l ≤ len → finFitsM (selfSrc len) hp k l
 | [], _, _, _ => trivial
 | b :: l, k, h, hl => by
   have hl : k + (lenB l + 1) ≤ len := hl
   have e : selfSrc len k = .nm k := by
     unfold selfSrc
     have : Nat.blt k len = true := Nat.ble_eq_true_of_le (show k + 1 ≤ len by omega)
     rw [this]
   refine ⟨?_, finFitsM_of (l := l) h.2 (by omega)⟩
   rw [e]
   exact h.1
theorem keptFit_of {R : ESpec} {g : R.γ} {v : AV} {hp : Hp} (h : evenFit R g v hp) : keptFit R.toK g v hp :=
 ⟨(), trivial, chk_iff.2 (by show (Nat.beq (lenB ((R.hp g).map Prod.snd)) (lenR (R.hp g)) && true) = true; rw [lenB_map, Nat.beq_refl]; rfl), finFitsM_of (len := lenR (R.hp g)) h.1 (by rw [Nat.zero_add]; show lenB ((R.hp g).map Prod.snd) ≤ _; rw [lenB_map]; exact Nat.le_refl _), h.2⟩
theorem semE_of (hE : EnvOk P E) (hD : ∀ inl yld, InlOk P E inl → InlFn E inl → YldOk P E yld → DrawOk P E inl yld) {fuel : Nat} {f : FuncId} {R : ESpec} {g : R.γ}
   (h : ∀ ms : Nat → List Int → Option Int, (∀ n T I, canonHp (R.hp g) n = some (.mpI T I) → ∀ ks x, ms n ks = some x → I ks x) →
     inlBody E (vc E fuel) f (R.arg g) (openHp ms (canonHp (R.hp g))) (lenR (R.hp g)) [] (fun v hp _ _ => evenFit R g v hp)) : SemK P E f R.toK g := by
 intro Z β w vs hsat hr
 have hsat : SatH E 0 (fun m => lenR (R.hp g) ≤ m) β Z (canonHp (R.hp g)) w := hsat
 have ex : ∀ n, ∃ m : List Int → Option Int, ∀ T I, canonHp (R.hp g) n = some (.mpI T I) → (∀ ks x, m ks = some x → I ks x) ∧ RB β Z w (β n) (.mp T m) := fun n => by
   by_cases hx : ∃ T I, canonHp (R.hp g) n = some (.mpI T I)
   · obtain ⟨T, I, hn⟩ := hx
     have hrb := hsat.rb n _ hn
     cases hβ : β n with
     | no => rw [hβ] at hrb; exact hrb.elim
     | virt => rw [hβ] at hrb; exact hrb.elim
     | «at» b ln =>
       rw [hβ] at hrb
       obtain ⟨es, clock, m, h1, h2, h3⟩ := hrb
       refine ⟨m, fun T' I' hn' => ?_⟩
       rw [hn] at hn'
       injection hn' with hn'
       injection hn' with e1 e2
       subst e1; subst e2
       exact ⟨h3, es, clock, h1, h2⟩
   · exact ⟨fun _ => none, fun T I hn => absurd ⟨T, I, hn⟩ hx⟩
 let ms : Nat → List Int → Option Int := fun n => Classical.choose (ex n)
 have hms : ∀ n T I, canonHp (R.hp g) n = some (.mpI T I) → (∀ ks x, ms n ks = some x → I ks x) ∧ RB β Z w (β n) (.mp T (ms n)) := fun n => Classical.choose_spec (ex n)
 have some_of : ∀ {n blk}, openHp ms (canonHp (R.hp g)) n = some blk → ∃ b0, canonHp (R.hp g) n = some b0 := fun {n blk} hn => by
   unfold openHp at hn
   split at hn
   · rename_i T I e; exact ⟨_, e⟩
   · exact ⟨_, hn⟩
 have own_of : ∀ b, Own β (openHp ms (canonHp (R.hp g))) b → Own β (canonHp (R.hp g)) b := fun b ⟨n, blk, ln, h1, h2⟩ => let ⟨b0, h0⟩ := some_of h1; ⟨n, b0, ln, h0, h2⟩
 have of_own : ∀ b, Own β (canonHp (R.hp g)) b → Own β (openHp ms (canonHp (R.hp g))) b := fun b ⟨n, blk, ln, h1, h2⟩ => by
   cases hb : openHp ms (canonHp (R.hp g)) n with
   | some c => exact ⟨n, c, ln, hb, h2⟩
   | none =>
     unfold openHp at hb
     split at hb
     · cases hb
     · rw [h1] at hb; cases hb
 have hsatO : SatH E 0 (fun m => lenR (R.hp g) ≤ m) β Z (openHp ms (canonHp (R.hp g))) w := by
   refine ⟨fun n blk hn => ?_, fun n blk b ln hn hb => ?_, fun n m x y b l1 l2 hn hm hb hb' => ?_, hsat.zlt, hsat.fresh, hsat.gl⟩
   · unfold openHp at hn
     split at hn
     · rename_i T I e
       injection hn with hn
       subst hn
       exact (hms n T I e).2
     · exact hsat.rb n blk hn
   · obtain ⟨b0, h0⟩ := some_of hn
     exact hsat.own n b0 b ln h0 hb
   · obtain ⟨b0, h0⟩ := some_of hn
     obtain ⟨b1, h1⟩ := some_of hm
     exact hsat.inj n m b0 b1 b l1 l2 h0 h1 hb hb'
 let x : HS := ⟨β, Z, openHp ms (canonHp (R.hp g)), lenR (R.hp g), [], w⟩
 have xok : x.ok E := hsatO
 refine CallsIn.mono (inlBody_ok hE (vc_ok hE hD fuel) f (R.arg g) x _ (h ms (fun n T I e => (hms n T I e).1)) xok vs hr) fun e w' hpost => ?_
 obtain ⟨val, v, y, rfl, hk, rfl, yok, yv, yt⟩ := hpost
 exact semK_end (R := R.toK) (g := g) hsat hr (keptFit_of hk) yok yv yt.ext (fun b hb => (yt.own b hb).imp (own_of b) id) (yt.ev.weaken own_of) (fun b hb => (yt.zown b hb).imp id (fun h => h.imp (own_of b) id))
end
end Go.Sx
namespace Go.Sx
section
variable {P : Program} {E : Env} {inl : CallVC} {yld : YieldVC} {ops : Array Oper} {bs : List Nat} {W : List (Nat × List Nat)}
theorem exists_least {p : Nat → Prop} : ∀ (k : Nat), p k → ∃ j, j ≤ k ∧ p j ∧ ∀ i, i < j → ¬ p i := by
 intro k
 induction k using Nat.strongRecOn with
 | _ k ih =>
   intro hk
   by_cases h : ∃ i, i < k ∧ p i
   · obtain ⟨i, hi, hp⟩ := h
     obtain ⟨j, h1, h2, h3⟩ := ih i hi hp
     exact ⟨j, by omega, h2, h3⟩
   · exact ⟨k, Nat.le_refl _, hk, fun i hi hp => h ⟨i, hi, hp⟩⟩
theorem ready_ex (hsd : sound ops.toList bs = true) {listed : Array Bool} (hsz : listed.size = ops.size) {k : Nat} (hk : k < ops.size) (hun : listed.getD k false = false) : ∃ i, i ≤ k ∧ i ∈ Region.ready .any ops listed := by
 obtain ⟨i, h1, h2, h3⟩ := exists_least (p := fun k => listed.getD k false = false) k hun
 have ho : ops[i]? = some ops[i] := by simp
 refine ⟨i, h1, ready_iff.2 ⟨ops[i], ho, getD_ft (by omega) h2, fun e he hb => ?_⟩⟩
 have hlt := (sound_ok hsd (i := i) (o := ops[i]) (by simp)).2.1 e he hb
 have := h3 e.on hlt
 simpa using this
section
variable {s b : Nat} {sts : Nat → St} {runs : Nat → Bool} {vs : Nat → AV} {ds : Nat → Option (Nat × Option Blk)} {β0 : Nat → Loc} {Z0 : Nat → Prop} {a0 : Act} {w0 : World}
theorem stretch_run (hst : Stretch P E ops.toList bs W s b sts runs vs ds) (hssa : ssa ops.toList bs = true) (hsd : sound ops.toList bs = true) (h0 : Sat E (sts s) β0 Z0 a0 w0) (hbar : b = ops.size ∨ isBar bs b = true) {ro : Option Nat} {Q : Exit → Act → World → Prop}
   (hEnd : ∀ (fuel : Nat) (listed : Array Bool) (a : Act) (w : World) (β : Nat → Loc) (Z : Nat → Prop), Mid E ops.toList bs s b sts vs ds β0 Z0 a0 w0 listed a w β Z → (∀ k, k < b → listed.getD k false = true) → unl listed ops.size ≤ fuel → wpAnyIn (Fn ro) 0 P .any ops Q fuel listed a w) :
   ∀ (fuel : Nat) (listed : Array Bool) (a : Act) (w : World) (β : Nat → Loc) (Z : Nat → Prop), Mid E ops.toList bs s b sts vs ds β0 Z0 a0 w0 listed a w β Z → unl listed ops.size ≤ fuel → wpAnyIn (Fn ro) 0 P .any ops Q fuel listed a w := by
 intro fuel
 induction fuel with
 | zero =>
   intro listed a w β Z hm hu
   have hsz : listed.size = ops.size := by rw [hm.size]; simp
   have hb : b ≤ ops.size := by simpa using hst.len
   exact hEnd 0 listed a w β Z hm (fun k hk => getD_tt (by omega) (unl_zero (k := ops.size) (by omega) k (by omega))) hu
 | succ fuel ih =>
   intro listed a w β Z hm hu
   have hsz : listed.size = ops.size := by rw [hm.size]; simp
   have hb : b ≤ ops.size := by simpa using hst.len
   by_cases hall : ∀ k, k < b → listed.getD k false = true
   · exact hEnd _ listed a w β Z hm hall hu
   · refine ⟨fun hnil => ?_, fun i hi => ?_⟩
     · exfalso
       apply hall
       intro k hk
       cases h : listed.getD k false with
       | true => rfl
       | false =>
         obtain ⟨i, _, hi⟩ := ready_ex hsd hsz (by omega : k < ops.size) h
         rw [hnil] at hi; simp at hi
     · obtain ⟨o, ho, hun, hrd⟩ := ready_iff.1 hi
       obtain ⟨hunF, hilt⟩ := getD_tf hun
       have hin : i < ops.size := by omega
       have hoL : ops.toList[i]? = some o := by simpa using ho
       obtain ⟨sd1, _, sd3⟩ := sound_ok hsd hoL
       have before : ∀ k, (bs.getD i 0).testBit k = true → listed.getD k false = true := fun k hk => by
         obtain ⟨e, he, hbd, h⟩ := sd3 k (sd1 k hk) hk
         rcases h with rfl | h
         · exact hrd e he hbd
         · exact hm.closed e.on (hrd e he hbd) k h
       have hlen : bs.length = ops.size := by
         simp only [sound, Bool.and_eq_true] at hsd
         rw [Nat.eq_of_beq_eq_true hsd.1]; simp
       have his : s ≤ i := by
         apply Nat.le_of_not_lt; intro h
         rw [hm.lo i h] at hunF; simp at hunF
       have hib : i < b := by
         apply Nat.lt_of_not_le
         intro hle
         rcases hbar with hbar | hbar
         · omega
         · obtain ⟨b1, b2⟩ := bar_ok hbar
           by_cases e : i = b
           · subst e
             exact hall fun k hk => before k (b1 k hk)
           · have := before b (b2 i (by omega) (by omega))
             rw [hm.hi b (Nat.le_refl _)] at this; simp at this
       refine mid_step hst hssa hsd h0 hm his hib ho hun hrd fun a' w' β' Z' hm' => ih _ a' w' β' Z' hm' ?_
       have := unl_set (l := listed) (i := i) hilt hun ops.size
       rw [if_pos hin] at this
       omega
end
theorem knT_keep {kn : Nat → Option Bool} {tm : Nat → AV} (h : KnT kn tm) : KnT (knKeep E kn) tm := by
 unfold knKeep
 cases E.keep with
 | true => exact h
 | false => exact fun d t hd => by simp at hd
theorem knT_next {kn : Nat → Option Bool} {st : St} (h : KnT kn st.tm) (dst : Option Nat) (v : AV) (hp : Hp) (nx : Nat) (wl : List Nat) : KnT (forget kn dst) (st.next dst v hp nx wl).tm := by
 intro d t hd
 cases dst with
 | none => exact h d t hd
 | some e =>
   simp only [forget, St.next] at hd ⊢
   by_cases c : d = e
   · subst c; rw [upd_same] at hd; cases hd
   · rw [upd_ne _ _ c] at hd ⊢; exact h d t hd
theorem step_next {dst : Option Nat} {p : Plan} {st : St} {K Q : St → Prop} (hQ : ∀ v hp nx wl, Q (st.next dst v hp nx wl)) (h : vcStep E inl yld dst p st K) : vcStep E inl yld dst p st (fun st' => K st' ∧ Q st') := by
 have e : ∀ v hp nx wl, (K (st.next dst v hp nx wl) ∧ Q (st.next dst v hp nx wl)) = K (st.next dst v hp nx wl) := fun v hp nx wl => propext ⟨And.left, fun h => ⟨h, hQ v hp nx wl⟩⟩
 unfold vcStep at h ⊢
 simp only [e]
 exact h
theorem split_mono {kn : Nat → Option Bool} {d : Nat} {x : AV} {K K' : (Nat → Option Bool) → Bool → Prop} {tm : Nat → AV} (hx : x = tm d) (hk : KnT kn tm) (hm : ∀ kn' t, KnT kn' tm → K kn' t → K' kn' t) (h : split kn d x K) : split kn d x K' := by
 have up : ∀ t, truth (tm d) = some t → KnT (upd kn d (some t)) tm := fun t ht e b he => by
   by_cases c : e = d
   · subst c; rw [upd_same] at he; injection he with he; subst he; exact ht
   · rw [upd_ne _ _ c] at he; exact hk e b he
 unfold split at h ⊢
 split at h
 · exact hm _ _ hk h
 · split at h
   · exact hm _ _ hk h
   · exact hm _ _ hk h
   · rename_i b
     refine ⟨fun hb => hm _ _ (up true ?_) (h.1 hb), fun hb => hm _ _ (up false ?_) (h.2 hb)⟩
     · rw [← hx, hb]; rfl
     · rw [← hx, hb]; rfl
   · exact h.elim
theorem knT_frz {kn : Nat → Option Bool} {l : List Nat} : ∀ {st : St}, KnT kn st.tm → KnT kn (frzAll l st).tm := by
 induction l with
 | nil => intro st h; exact h
 | cons t l ih =>
   intro st h
   refine ih (st := frzOne t st) fun d b hb => ?_
   have h0 := h d b hb
   unfold frzOne
   split
   · rename_i n sz ln htm
     split
     · split
       · show truth (upd st.tm t _ d) = some b
         by_cases e : d = t
         · subst e; rw [htm] at h0; cases h0
         · rw [upd_ne _ _ e]; exact h0
       · exact h0
     · exact h0
   · exact h0
theorem one_kn {kn : Nat → Option Bool} {o : Oper} {st : St} {K : (Nat → Option Bool) → St → Prop} (h : vcOne E inl yld kn o st K) (hk : KnT kn st.tm) : vcOne E inl yld kn o st (fun kn' st' => K kn' st' ∧ KnT kn' st'.tm) := by
 unfold vcOne at h ⊢
 cases hh : st.has o.dst with
 | false => rw [hh] at h; exact h.elim
 | true =>
   rw [hh] at h
   simp only at h ⊢
   split at h
   · rename_i c x y hop
     exact split_mono rfl hk (fun kn' t hk' hK => ⟨hK, knT_next hk' _ _ _ _ _⟩) h
   · exact step_next (Q := fun st' => KnT (forget kn o.dst) st'.tm) (fun v hp nx wl => knT_next (knT_frz hk) _ _ _ _ _) h
   · cases e : E.pz o.dst with
     | nil =>
       simp only [e] at h
       exact step_next (Q := fun st' => KnT (forget kn o.dst) st'.tm) (fun v hp nx wl => knT_next hk _ _ _ _ _) h
     | cons t l =>
       simp only [e] at h
       exact step_next (Q := fun st' => KnT (forget kn o.dst) st'.tm) (fun v hp nx wl => knT_next (knT_frz hk) _ _ _ _ _) h
theorem draw_go (hE : EnvOk P E) (hI : InlOk P E inl) (hIf : InlFn E inl) (hY : YldOk P E yld) (hssa : ssa ops.toList bs = true) (hsd : sound ops.toList bs = true) {K : St → Prop} {ro : Option Nat} {Q : Exit → Act → World → Prop} {x0 : HS} {sz : Nat} {a0 : Act}
   (hK : ∀ st' β' Z' a' w', K st' → Sat E st' β' Z' a' w' → Turn x0 (HS.of st' β' Z' w') → st'.sz = sz → (∀ t, (∀ o ∈ ops.toList, o.dst ≠ some t) → a'.tmps.getD t undef = a0.tmps.getD t undef) → a'.defers = a0.defers → Q .normal a' w') :
   ∀ (m s : Nat), s ≤ ops.size → ops.size - s ≤ m → ∀ (kn : Nat → Option Bool) (st : St) (β : Nat → Loc) (Z : Nat → Prop) (a : Act) (w : World) (listed : Array Bool) (fuel : Nat), vcDraw E inl yld ops.toList bs W (ops.toList.drop s) s st.nx s kn st K → KnT kn st.tm → Sat E st β Z a w →
     Turn x0 (HS.of st β Z w) → st.sz = sz → (∀ t, (∀ o ∈ ops.toList, o.dst ≠ some t) → a.tmps.getD t undef = a0.tmps.getD t undef) → a.defers = a0.defers → listed.size = ops.size → (∀ k, k < s → listed.getD k false = true) → (∀ k, s ≤ k → listed.getD k false = false) →
     unl listed ops.size ≤ fuel → wpAnyIn (Fn ro) 0 P .any ops Q fuel listed a w := by
 intro m
 induction m with
 | zero =>
   intro s hs hsm kn st β Z a w listed fuel h hkn hsat ht hsz hkeep hdef hls hlo hhi hfu
   have : s = ops.size := by omega
   have hd : ops.toList.drop s = [] := by simp; omega
   rw [hd] at h
   have hQ := hK st β Z a w h hsat ht hsz hkeep hdef
   refine wpAnyIn_done ?_ hQ fuel
   cases hr : Region.ready .any ops listed with
   | nil => rfl
   | cons i l =>
     obtain ⟨o, ho, hun, _⟩ := ready_iff.1 (by rw [hr]; simp : i ∈ Region.ready .any ops listed)
     obtain ⟨h1, h2⟩ := getD_tf hun
     rw [hlo i (by omega)] at h1; simp at h1
 | succ m ih =>
   intro s hs hsm kn st β Z a w listed fuel h hkn hsat ht hsz hkeep hdef hls hlo hhi hfu
   have free : ∀ n, st.nx ≤ n → st.hp n = none := fun n hn => not_known hsat.heap (hsat.heap.fresh n hn)
   obtain ⟨b, sts, runs, vs, ds, q1, q2, q3, q4, q5, q6⟩ := extract (P := P) hE hI _ s rfl (by simpa using hs) kn st h hkn free
   subst q3
   have hst : Stretch P E ops.toList bs W s b sts runs vs ds := ⟨q1, q2, q4, q5⟩
   have hb : b ≤ ops.size := by simpa using q2
   have hcl : ∀ k, listed.getD k false = true → ∀ j, (bs.getD k 0).testBit j = true → listed.getD j false = true := fun k hk j hj => by
     have hks : k < s := by
       apply Nat.lt_of_not_le; intro hle
       rw [hhi k hle] at hk; simp at hk
     have hko : ops.toList[k]? = some ops[k] := by simp
     have := (sound_ok hsd hko).1 j hj
     exact hlo j (by omega)
   have hmid := mid_start hst hsat (by simpa using hls) hlo hhi hcl
   refine stretch_run hst hssa hsd hsat (q6.elim (fun h => .inl (by simpa using h.1)) (fun ⟨_, _, h, _⟩ => .inr h)) (fun fuel listed' a' w' β' Z' hm hall hfu' => ?_) fuel listed a w β Z hmid hfu
   obtain ⟨e1, e2, e3⟩ := mid_end hst hssa hsat hm hall
   have hszb := (hst.nx (k := b) q1 (Nat.le_refl _)).2.2
   have T := ht.trans e2
   have hls' : listed'.size = ops.size := by rw [hm.size]; simp
   have keep' : ∀ t, (∀ o ∈ ops.toList, o.dst ≠ some t) → a'.tmps.getD t undef = a0.tmps.getD t undef := fun t h => (e3 t h).trans (hkeep t h)
   have def' : a'.defers = a0.defers := hm.df.trans hdef
   rcases q6 with ⟨hbn, hk⟩ | ⟨o, ho, hbar, kn1, hkn1, hvc⟩
   · have hQ := hK (sts b) β' Z' a' w' hk e1 T (hszb.trans hsz) keep' def'
     refine wpAnyIn_done ?_ hQ fuel
     cases hr : Region.ready .any ops listed' with
     | nil => rfl
     | cons i l =>
       obtain ⟨o, ho, hun, _⟩ := ready_iff.1 (by rw [hr]; simp : i ∈ Region.ready .any ops listed')
       obtain ⟨h1, h2⟩ := getD_tf hun
       have hbn' : b = ops.size := by simpa using hbn
       rw [hall i (by omega)] at h1; simp at h1
   · have hblt : b < ops.size := by
       have := (List.getElem?_eq_some_iff.1 ho).1
       simpa using this
     have hunb : listed'.getD b false = false := hm.hi b (Nat.le_refl _)
     have hob : ops[b]? = some o := by simpa using ho
     have hdrop : ops.toList.drop b = o :: ops.toList.drop (b + 1) := by
       rw [List.drop_eq_getElem_cons (by simpa using hblt)]
       congr 1
       have := (List.getElem?_eq_some_iff.1 ho).2
       exact this
     have hub : unl (listed'.setIfInBounds b true) ops.size + 1 = unl listed' ops.size := by
       have := unl_set (l := listed') (i := b) (by omega) (getD_ft (by omega) hunb) ops.size
       rw [if_pos hblt] at this
       exact this
     cases fuel with
     | zero => omega
     | succ fuel =>
       refine ⟨fun hnil => ?_, fun i hi => ?_⟩
       · obtain ⟨i, _, hi⟩ := ready_ex hsd hls' hblt hunb
         rw [hnil] at hi; simp at hi
       · obtain ⟨oi, hoi, hun, hrd⟩ := ready_iff.1 hi
         obtain ⟨hunF, hilt⟩ := getD_tf hun
         have hib : i = b := by
           by_cases e1' : i < b
           · rw [hall i e1'] at hunF; simp at hunF
           · by_cases e2' : i = b
             · exact e2'
             · exfalso
               have hlen : bs.length = ops.size := by
                 simp only [sound, Bool.and_eq_true] at hsd
                 rw [Nat.eq_of_beq_eq_true hsd.1]; simp
               have hbit := (bar_ok hbar).2 i (by omega) (by omega)
               have hoL : ops.toList[i]? = some oi := by simpa using hoi
               obtain ⟨sd1, _, sd3⟩ := sound_ok hsd hoL
               have : listed'.getD b false = true := by
                 obtain ⟨ed, he, hbd, h⟩ := sd3 b (sd1 b hbit) hbit
                 rcases h with h | h
                 · rw [← h]; exact hrd ed he hbd
                 · exact hm.closed ed.on (hrd ed he hbd) b h
               rw [hunb] at this; simp at this
         subst hib
         rw [hob] at hoi; injection hoi with hoi; subst hoi
         have lo' : ∀ k, k < i + 1 → (listed'.setIfInBounds i true).getD k false = true := fun k hk => by
           rw [getD_set' (by omega)]
           by_cases e : k = i
           · rw [if_pos e]
           · rw [if_neg e]; exact hall k (by omega)
         have hi' : ∀ k, i + 1 ≤ k → (listed'.setIfInBounds i true).getD k false = false := fun k hk => by
           rw [getD_set' (by omega), if_neg (by omega)]; exact hm.hi k (by omega)
         rw [hdrop] at hvc
         simp only [vcDraw] at hvc
         obtain ⟨kn2, run, h1, h2, h3⟩ := guard_abs hvc hkn1
         have hmem : o ∈ ops.toList := List.mem_of_getElem? ho
         have hwant : Region.wanted o (yielded ops a'.tmps) = run := by
           rcases h3 with ⟨hg, hr⟩ | ⟨j, want, d, t, hg, hd, htt, hr⟩ | ⟨j, want, d, hg, hd, htt, hr⟩
           · rw [hr]; simp [Region.wanted, hg]
           · rw [hr]; exact wanted_of hg hd (truth_ok (e1.tm d) htt)
           · have hb := e1.tm d
             rw [htt] at hb
             rw [hr]; exact wanted_skip hg hd (ra_skip_eq hb)
         rw [hbar] at h1
         simp only at h1
         unfold wpOpIn
         rw [hob]
         simp only [hwant]
         cases run with
         | true =>
           rw [if_pos rfl]
           have hko : KnOk kn2 a' := fun d t hd => truth_ok (e1.tm d) (h2 d t hd)
           refine Oper.wpIn_mono (fun a2 w2 hp => ?_) (one_sound hE hI hIf hY (one_kn h1 h2) e1 hko)
           obtain ⟨_, _, st2, β2, Z2, ⟨r1, r1k⟩, r2, r3, r4, r5, r6⟩ := hp
           exact ih (i + 1) (by omega) (by omega) _ st2 β2 Z2 a2 w2 _ fuel r1 (knT_keep r1k) r2 (T.trans r3) (r4.trans (hszb.trans hsz)) (fun t h => (r5 t (h o hmem)).trans (keep' t h)) (r6.trans def') (by simp [hls']) lo' hi' (by omega)
         | false =>
           rw [if_neg (by simp)]
           simp only at h1
           split at h1
           · rename_i hh
             obtain ⟨s1, s2⟩ := skip_ok e1 hh
             refine ⟨fun _ _ => trivial, ih (i + 1) (by omega) (by omega) _ _ β' Z' _ w' _ fuel h1 (knT_keep (knT_next h2 _ _ _ _ _)) s1 (T.trans s2) (hszb.trans hsz) (fun t h => ?_) ?_ (by simp [hls']) lo' hi' (by omega)⟩
             · rw [getD_put, if_neg (fun hh => h o hmem hh.1)]; exact keep' t h
             · rw [← def']; cases o.dst <;> rfl
           · exact h1.elim
theorem unl_all : ∀ (n k : Nat), k ≤ n → unl (Array.replicate n false) k = k
 | n, 0, _ => rfl
 | n, k + 1, h => by
   simp only [unl, unl_all n k (by omega)]
   rw [if_neg]
   simp [Array.getD]; omega
theorem draw_ok1 (hE : EnvOk P E) (hI : InlOk P E inl) (hIf : InlFn E inl) (hY : YldOk P E yld) (id : Nat) (ops : Array Oper) (bs : List Nat) (W : St → List (Nat × List Nat)) (ho : orderly ops.toList bs = true) :
   CodeOk P E (.region id ops true) (fun st Q => vcDraw E inl yld ops.toList bs (W st) ops.toList 0 st.nx 0 (fun _ => none) st (Q .normal)) := by
 intro st Q h ro B0 β Z a w hs hm hro
 simp only [orderly, Bool.and_eq_true] at ho
 obtain ⟨hssa, hsd⟩ := ho
 refine wpIn_region_draw fun t => ?_
 simp only [Region.schedule, hE.mix, Bool.true_or, if_true]
 refine wpAnyIn_sound ops.size t _ a _ ?_
 have evD : Evo (Own β st.hp) Z w Z { w with drawn := w.drawn + 1 } := ⟨rfl, rfl, rfl, Nat.le_refl _, fun _ _ _ => rfl, fun _ cs _ h => ⟨cs, h, rfl⟩, fun _ r h => ⟨r, h, rfl, rfl, rfl, rfl, rfl, rfl⟩, fun _ h => h⟩
 have hsD : SatH E 0 (fun n => st.nx ≤ n) β Z st.hp { w with drawn := w.drawn + 1 } :=
   hs.heap.step evD (Ext.refl β) (fun n blk hn => .inl ⟨hn, fun b ln hb => ⟨rfl, (hs.heap.own n blk b ln hn hb).2.1⟩⟩) hs.heap.inj hs.heap.zlt hs.heap.fresh
 have hS : Sat E st β Z a { w with drawn := w.drawn + 1 } := ⟨hsD, fun t => RA.mono evD hs.heap.calm (Ext.refl _) (hs.tm t), hs.sz⟩
 have hT : Turn (HS.of st β Z w) (HS.of st β Z { w with drawn := w.drawn + 1 }) := ⟨evD, Ext.refl _, fun _ h => .inl h, fun _ h => .inl h, Nat.le_refl _, fun _ h => h, fun _ _ _ => rfl⟩
 have hkeepW : ∀ t, writes (.region id ops true) t = false → ∀ o ∈ ops.toList, o.dst ≠ some t := fun t hw o ho e => by
   simp only [writes, List.any_eq_false] at hw
   have := hw o ho
   rw [e] at this
   simp at this
 have hfalse : ∀ k, (Array.replicate ops.size false).getD k false = false := fun k => by
   by_cases hk : k < ops.size <;> simp [Array.getD, hk]
 exact draw_go hE hI hIf hY hssa hsd (x0 := HS.of st β Z w) (sz := st.sz) (a0 := a) (K := Q .normal) (fun st' β' Z' a' w' hk hs' ht hsz hkeep hdef => ⟨st', β', Z', hk, hs', ht, hsz, fun t hw => hkeep t (hkeepW t hw), by rw [hdef]; exact hm.turn ht⟩)
   ops.size 0 (Nat.zero_le _) (by omega) (fun _ => none) st β Z a _ _ ops.size h (fun d t h => by simp at h) hS hT rfl (fun _ _ => rfl) rfl (by simp) (fun k hk => by omega) (fun k _ => hfalse k) (by rw [unl_all _ _ (Nat.le_refl _)]; exact Nat.le_refl _)
theorem readyL_iff {ops : Array Oper} {listed : Array Bool} {m : Nat} (hsz : listed.size = ops.size) (hm : ∀ k, listed.getD k false = m.testBit k) {i : Nat} : i ∈ Region.ready .any ops listed ↔ i ∈ readyL ops.toList m := by
 rw [ready_iff]
 simp only [readyL, List.mem_filter, List.mem_range, Bool.and_eq_true, Bool.not_eq_true']
 constructor
 · rintro ⟨o, ho, h1, h2⟩
   have hlt : i < ops.size := (Array.getElem?_eq_some_iff.1 ho).1
   have hoL : ops.toList[i]? = some o := by simpa using ho
   refine ⟨by simpa using hlt, ?_, ?_⟩
   · rw [← hm]; exact (getD_tf h1).1
   · rw [hoL]
     simp only [List.all_eq_true, Bool.or_eq_true, Bool.not_eq_true']
     intro e he
     cases hb : Region.binds .any e with
     | false => exact .inl rfl
     | true => exact .inr (by rw [← hm]; exact h2 e (by simpa using he) hb)
 · rintro ⟨h0, h1, h2⟩
   have hlt : i < ops.size := by simpa using h0
   have ho : ops[i]? = some ops[i] := by simp [hlt]
   have hoL : ops.toList[i]? = some ops[i] := by simp [hlt]
   rw [hoL] at h2
   simp only [List.all_eq_true, Bool.or_eq_true, Bool.not_eq_true'] at h2
   refine ⟨ops[i], ho, getD_ft (by omega) (by rw [hm]; exact h1), fun e he hb => ?_⟩
   rcases h2 e (by simpa using he) with h3 | h3
   · rw [hb] at h3; cases h3
   · rw [hm]; exact h3
theorem allOf_mem {p : Nat → Prop} : ∀ {l : List Nat}, allOf p l → ∀ i ∈ l, p i
 | [], _, i, h => by cases h
 | a :: l, h, i, hi => by
   rcases List.mem_cons.1 hi with rfl | hi
   · exact h.1
   · exact allOf_mem h.2 i hi
theorem any_go (hE : EnvOk P E) (hI : InlOk P E inl) (hIf : InlFn E inl) (hY : YldOk P E yld) {K : St → Prop} {ro : Option Nat} {Q : Exit → Act → World → Prop} {x0 : HS} {sz : Nat} {a0 : Act}
   (hK : ∀ st' β' Z' a' w', K st' → Sat E st' β' Z' a' w' → Turn x0 (HS.of st' β' Z' w') → st'.sz = sz → (∀ t, (∀ o ∈ ops.toList, o.dst ≠ some t) → a'.tmps.getD t undef = a0.tmps.getD t undef) → a'.defers = a0.defers → Q .normal a' w') :
   ∀ (fuel m : Nat) (st : St) (β : Nat → Loc) (Z : Nat → Prop) (a : Act) (w : World) (listed : Array Bool), vcAny E inl yld ops.toList fuel m st K → Sat E st β Z a w →
     Turn x0 (HS.of st β Z w) → st.sz = sz → (∀ t, (∀ o ∈ ops.toList, o.dst ≠ some t) → a.tmps.getD t undef = a0.tmps.getD t undef) → a.defers = a0.defers → listed.size = ops.size → (∀ k, listed.getD k false = m.testBit k) →
     wpAnyIn (Fn ro) 0 P .any ops Q fuel listed a w := by
 intro fuel
 induction fuel with
 | zero =>
   intro m st β Z a w listed h hs ht hsz hkeep hdef hls hm
   simp only [vcAny] at h
   split at h
   · rename_i hr
     refine ⟨?_, hK st β Z a w h hs ht hsz hkeep hdef⟩
     cases hrd : Region.ready .any ops listed with
     | nil => rfl
     | cons i l =>
       have : i ∈ readyL ops.toList m := (readyL_iff hls hm).1 (by rw [hrd]; simp)
       rw [hr] at this; cases this
   · exact h.elim
 | succ fuel ih =>
   intro m st β Z a w listed h hs ht hsz hkeep hdef hls hm
   simp only [vcAny] at h
   split at h
   · rename_i hr
     refine ⟨fun _ => hK st β Z a w h hs ht hsz hkeep hdef, fun i hi => ?_⟩
     have : i ∈ readyL ops.toList m := (readyL_iff hls hm).1 hi
     rw [hr] at this; cases this
   · rename_i i0 l0 hr
     refine ⟨fun hnil => ?_, fun i hi => ?_⟩
     · have : i0 ∈ Region.ready .any ops listed := (readyL_iff hls hm).2 (by rw [hr]; simp)
       rw [hnil] at this; cases this
     · have hiL : i ∈ readyL ops.toList m := (readyL_iff hls hm).1 hi
       have h1 := allOf_mem h i (by rw [← hr]; exact hiL)
       obtain ⟨o, ho, hun, _⟩ := ready_iff.1 hi
       have hoL : ops.toList[i]? = some o := by simpa using ho
       have hilt : i < listed.size := (getD_tf hun).2
       simp only [hoL] at h1
       have hmem : o ∈ ops.toList := List.mem_of_getElem? hoL
       have hm' : ∀ k, (listed.setIfInBounds i true).getD k false = (m ||| 2 ^ i).testBit k := fun k => by
         rw [getD_set' hilt, Nat.testBit_or, Nat.testBit_two_pow]
         by_cases e : k = i
         · subst e; simp
         · rw [if_neg e, hm k]; have e' : ¬ i = k := fun h => e h.symm; simp [e']
       obtain ⟨kn2, run, h2, h3, h4⟩ := guard_abs h1 (fun d t h => by simp at h)
       have hwant : Region.wanted o (yielded ops a.tmps) = run := by
         rcases h4 with ⟨hg, hr⟩ | ⟨j, want, d, t, hg, hd, htt, hr⟩ | ⟨j, want, d, hg, hd, htt, hr⟩
         · rw [hr]; simp [Region.wanted, hg]
         · rw [hr]; exact wanted_of hg hd (truth_ok (hs.tm d) htt)
         · have hb := hs.tm d
           rw [htt] at hb
           rw [hr]; exact wanted_skip hg hd (ra_skip_eq hb)
       unfold wpOpIn
       rw [ho]
       simp only [hwant]
       cases run with
       | true =>
         rw [if_pos rfl]
         have hko : KnOk kn2 a := fun d t hd => truth_ok (hs.tm d) (h3 d t hd)
         refine Oper.wpIn_mono (fun a2 w2 hp => ?_) (one_sound hE hI hIf hY h2 hs hko)
         obtain ⟨_, _, st2, β2, Z2, r1, r2, r3, r4, r5, r6⟩ := hp
         exact ih _ st2 β2 Z2 a2 w2 _ r1 r2 (ht.trans r3) (r4.trans hsz) (fun t h => (r5 t (h o hmem)).trans (hkeep t h)) (r6.trans hdef) (by simp [hls]) hm'
       | false =>
         rw [if_neg (by simp)]
         simp only at h2
         split at h2
         · rename_i hh
           obtain ⟨s1, s2⟩ := skip_ok hs hh
           refine ⟨fun _ _ => trivial, ih _ _ β Z _ w _ h2 s1 (ht.trans s2) hsz (fun t h => ?_) ?_ (by simp [hls]) hm'⟩
           · rw [getD_put, if_neg (fun hh => h o hmem hh.1)]; exact hkeep t h
           · rw [← hdef]; cases o.dst <;> rfl
         · exact h2.elim
theorem draw_ok2 (hE : EnvOk P E) (hI : InlOk P E inl) (hIf : InlFn E inl) (hY : YldOk P E yld) (id : Nat) (ops : Array Oper) :
   CodeOk P E (.region id ops true) (fun st Q => vcAny E inl yld ops.toList ops.size 0 st (Q .normal)) := by
 intro st Q h ro B0 β Z a w hs hm hro
 refine wpIn_region_draw fun t => ?_
 simp only [Region.schedule, hE.mix, Bool.true_or, if_true]
 refine wpAnyIn_sound ops.size t _ a _ ?_
 have evD : Evo (Own β st.hp) Z w Z { w with drawn := w.drawn + 1 } := ⟨rfl, rfl, rfl, Nat.le_refl _, fun _ _ _ => rfl, fun _ cs _ h => ⟨cs, h, rfl⟩, fun _ r h => ⟨r, h, rfl, rfl, rfl, rfl, rfl, rfl⟩, fun _ h => h⟩
 have hsD : SatH E 0 (fun n => st.nx ≤ n) β Z st.hp { w with drawn := w.drawn + 1 } :=
   hs.heap.step evD (Ext.refl β) (fun n blk hn => .inl ⟨hn, fun b ln hb => ⟨rfl, (hs.heap.own n blk b ln hn hb).2.1⟩⟩) hs.heap.inj hs.heap.zlt hs.heap.fresh
 have hS : Sat E st β Z a { w with drawn := w.drawn + 1 } := ⟨hsD, fun t => RA.mono evD hs.heap.calm (Ext.refl _) (hs.tm t), hs.sz⟩
 have hT : Turn (HS.of st β Z w) (HS.of st β Z { w with drawn := w.drawn + 1 }) := ⟨evD, Ext.refl _, fun _ h => .inl h, fun _ h => .inl h, Nat.le_refl _, fun _ h => h, fun _ _ _ => rfl⟩
 have hkeepW : ∀ t, writes (.region id ops true) t = false → ∀ o ∈ ops.toList, o.dst ≠ some t := fun t hw o ho e => by
   simp only [writes, List.any_eq_false] at hw
   have := hw o ho
   rw [e] at this
   simp at this
 have hfalse : ∀ k, (Array.replicate ops.size false).getD k false = false := fun k => by
   by_cases hk : k < ops.size <;> simp [Array.getD, hk]
 exact any_go hE hI hIf hY (x0 := HS.of st β Z w) (sz := st.sz) (a0 := a) (K := Q .normal) (fun st' β' Z' a' w' hk hs' ht hsz hkeep hdef => ⟨st', β', Z', hk, hs', ht, hsz, fun t hw => hkeep t (hkeepW t hw), by rw [hdef]; exact hm.turn ht⟩)
   ops.size 0 st β Z a _ _ h hS hT rfl (fun _ _ => rfl) rfl (by simp) (fun k => by rw [hfalse]; simp)
theorem draw_ok (hE : EnvOk P E) (hI : InlOk P E inl) (hIf : InlFn E inl) (hY : YldOk P E yld) : DrawOk P E inl yld := ⟨draw_ok1 hE hI hIf hY, draw_ok2 hE hI hIf hY⟩
theorem contract (hE : EnvOk P E) {fuel : Nat} {f : FuncId} {args : List TV} {rs : List RV} (h : inlOf E (vc E fuel) f args (fun _ => none) 0 [] (fun v hp _ _ => resFit hp v rs)) : CallQ P E f args rs :=
 callQ_of hE (fun _ _ hI hIf hY => draw_ok hE hI hIf hY) h
end
end Go.Sx
