/- The framework Sx, part 10: the conditions of all code are sound; contracts from conditions. -/
import Derived.Test.YthcplmlkgaiggaaSxVc
set_option linter.unusedSimpArgs false
set_option linter.unusedVariables false
namespace Go.Sx
section
variable {P : Program} {E : Env} {β β' : Nat → Loc} {Z Z' : Nat → Prop} {hp : Hp} {w w' : World} {inl : CallVC} {yld : YieldVC}

def DrawOk (P : Program) (E : Env) (inl : CallVC) (yld : YieldVC) : Prop := (∀ (id : Nat) (ops : Array Oper) (bs : List Nat), orderly ops.toList bs = true →
  CodeOk P E (.region id ops true) (fun st Q => vcDraw E inl yld ops.toList bs ops.toList 0 st.nx 0 (fun _ => none) st (Q .normal))) ∧
  ∀ (id : Nat) (ops : Array Oper), CodeOk P E (.region id ops true) (fun st Q => vcAny E inl yld ops.toList ops.size 0 st (Q .normal))

theorem Post.mono {B0 : Nat} {Q Q' : Exit → St → Prop} {c c' : Code} {x : HS} {sz : Nat} {a : Act} {e : Exit} {a' : Act} {w' : World} (h : Post E B0 Q c x sz a e a' w') (hq : ∀ st, Q e st → Q' e st) (hc : ∀ t, writes c' t = false → writes c t = false) : Post E B0 Q' c' x sz a e a' w' := by
  obtain ⟨st', β', Z', h1, h2, h3, h4, h5, h6⟩ := h
  exact ⟨st', β', Z', hq _ h1, h2, h3, h4, fun t ht => h5 t (hc t ht), h6⟩

theorem Post.then_ {B0 : Nat} {Q : Exit → St → Prop} {c c' c'' : Code} {x : HS} {sz : Nat} {a a1 : Act} {e : Exit} {a' : Act} {w1 w' : World} {st1 : St} {β1 : Nat → Loc} {Z1 : Nat → Prop}
    (ht : Turn x (HS.of st1 β1 Z1 w1)) (hsz : st1.sz = sz) (hk : ∀ t, writes c t = false → a1.tmps.getD t undef = a.tmps.getD t undef) (h : Post E B0 Q c' (HS.of st1 β1 Z1 w1) st1.sz a1 e a' w')
    (hc : ∀ t, writes c'' t = false → writes c t = false ∧ writes c' t = false) : Post E B0 Q c'' x sz a e a' w' := by
  obtain ⟨st', β', Z', h1, h2, h3, h4, h5, h6⟩ := h
  exact ⟨st', β', Z', h1, h2, ht.trans h3, h4.trans hsz, fun t h => (h5 t (hc t h).2).trans (hk t (hc t h).1), h6⟩

theorem not_own_deferred {Fr : Nat → Prop} {B : Nat} (h : SatH E B Fr β Z hp w) {r : Nat} {d : Option (List Deferred)} (hd : w.heap[r]? = some (.deferred d)) : ¬ Own β hp r := by
  rintro ⟨n, blk, ln, hn, hb⟩
  have hrb := h.rb n blk hn
  rw [hb] at hrb
  cases blk with
  | box => obtain ⟨cs, e, a1, _⟩ := hrb; rw [hd] at a1; simp at a1
  | row => obtain ⟨_, cs, a1, _⟩ := hrb; rw [hd] at a1; simp at a1
  | mp => obtain ⟨es, cl, a1, _⟩ := hrb; rw [hd] at a1; simp at a1
  | mpI => obtain ⟨es, cl, m, a1, _⟩ := hrb; rw [hd] at a1; simp at a1
  | lp => obtain ⟨rr, a1, _⟩ := hrb; rw [hd] at a1; simp at a1

theorem head_hp {A : Ann} {c : Code} {st st1 : St} {g : A.G} (h : comesTo A st st1 g) : ∀ n, n ∉ A.dom st → (headSt A c st g).hp n = st.hp n := by
  obtain ⟨hchk, _, _⟩ := h
  have hchk := chk_iff.1 hchk
  simp only [Bool.and_eq_true] at hchk
  have hdom := sameNames_ok hchk.1.1
  intro n hn
  have : findHp (A.hp st g) n = none := findHp_none.2 fun x hx e => hn (by rw [hdom]; exact List.mem_map.2 ⟨x, hx, e⟩)
  show (match findHp (A.hp st g) n with | some (_, b) => b | none => st.hp n) = st.hp n
  rw [this]

/-- A loop. -/
theorem loop_ok {fid : FuncId} {c : Code} (ih : CodeOk P E c (walk E fid inl yld c)) : CodeOk P E (.loop c) (walk E fid inl yld (.loop c)) := by
  intro st Q h ro B0 β0 Z0 a0 w0 hs hm hro
  simp only [walk] at h
  split at h
  · rename_i A _
    obtain ⟨⟨g0, hok0, hcome0⟩, hround⟩ := h
    let I : Nat → Act → World → Prop := fun m a w => ∃ (g : A.G) (β : Nat → Loc) (Z : Nat → Prop), A.ok st g ∧ A.mu st g = m ∧ Sat E (headSt A c st g) β Z a w ∧
      Turn (HS.of st β0 Z0 w0) ⟨β, Z, (headSt A c st g).hp, st.nx + 16, A.dom st ++ st.wl, w⟩ ∧ (∀ t, writes c t = false → a.tmps.getD t undef = a0.tmps.getD t undef) ∧ Marks B0 ⟨β, Z, (headSt A c st g).hp, st.nx + 16, A.dom st ++ st.wl, w⟩ a.defers ∧
      (∀ n, n ∉ A.dom st → (headSt A c st g).hp n = st.hp n)
    have entry : I (A.mu st g0) a0 w0 := by
      obtain ⟨β2, k1, k2⟩ := arrive (c := c) (st1 := { st with wl := [] }) hs hs.heap hs.tm hs.sz (Evo.refl _ _ _) (Ext.refl _) (fun b h => .inl h) (fun b h => .inl h) (fun _ _ _ => rfl) (fun _ _ => rfl) hcome0
      exact ⟨g0, β2, Z0, hok0, rfl, k1, k2, fun _ _ => rfl, hm.turn k2, head_hp hcome0⟩
    refine wpIn_loop_ghost I _ entry fun m a w hI => ?_
    obtain ⟨g, β, Z, hok, rfl, hsat, hturn, hkeep, hmk, hhead⟩ := hI
    have hw := ih _ _ (hround g hok) ro B0 β Z a w hsat hmk (hro.turn hturn)
    refine wpIn_mono hw fun e a' w' hpost => ?_
    obtain ⟨st', β', Z', hq, hs', ht, hsz, hk, hm'⟩ := hpost
    have T1 : Turn ⟨β, Z, (headSt A c st g).hp, st.nx + 16, A.dom st ++ st.wl, w⟩ ⟨β', Z', st'.hp, st'.nx, st'.wl ++ (A.dom st ++ st.wl), w'⟩ :=
      ⟨ht.ev, ht.ext, ht.own, ht.zown, ht.nx, fun n hn => List.mem_append.2 (.inr hn), fun n hn hw => ht.frame n hn (fun hh => hw (List.mem_append.2 (.inl hh)))⟩
    have leave : Q e { st' with wl := st'.wl ++ (A.dom st ++ st.wl) } → Post E B0 Q (.loop c) (HS.of st β0 Z0 w0) st.sz a0 e a' w' := fun hq =>
      ⟨{ st' with wl := st'.wl ++ (A.dom st ++ st.wl) }, β', Z', hq, ⟨hs'.heap, hs'.tm, hs'.sz⟩, hturn.trans T1, hsz, fun t h => (hk t h).trans (hkeep t h), hm'⟩
    cases e with
    | normal =>
      obtain ⟨g', hok', hlt, hcome⟩ := hq
      have hcome2 := hcome
      obtain ⟨hchk, _, _⟩ := hcome2
      have hchk := chk_iff.1 hchk
      simp only [Bool.and_eq_true, List.all_eq_true, Bool.or_eq_true, List.any_eq_true] at hchk
      obtain ⟨⟨hsame, _⟩, hwl⟩ := hchk
      have T := hturn.trans T1
      have kept : ∀ n, n < st.nx → n ∉ A.dom st → st'.hp n = st.hp n := fun n hn hnd => by
        have hnw : n ∉ st'.wl := fun hmem => by
          rcases hwl n hmem with h1 | ⟨x, hx, h1⟩
          · exact absurd (Nat.le_of_ble_eq_true h1) (by omega)
          · rw [Nat.eq_of_beq_eq_true h1] at hnd; exact hnd hx
        have e1 : st'.hp n = (headSt A c st g).hp n := ht.frame n (show n < st.nx + 16 by omega) hnw
        exact e1.trans (hhead n hnd)
      obtain ⟨β2, k1, k2⟩ := arrive (c := c) (st1 := st') (a1 := a') hs hs'.heap hs'.tm (by rw [hs'.sz, hsz]; rfl) T.ev T.ext T.own T.zown kept (fun t h => (hk t h).trans (hkeep t h)) hcome
      obtain ⟨m0, l, ml, mn, mr⟩ := hm'
      refine ⟨A.mu st g', hlt, g', β2, Z', hok', rfl, k1, k2, fun t h => (hk t h).trans (hkeep t h), ⟨m0, l, ml, mn, fun r hr => ?_⟩, head_hp hcome⟩
      obtain ⟨q0, q1, q2, q3⟩ := mr r hr
      exact ⟨q0, q1, not_own_deferred k1.heap q1, q3⟩
    | exit => exact leave hq
    | ret => exact leave hq
    | goto => exact leave hq
    | panic => exact leave hq
    | outgrown => exact leave hq
  · exact h.elim

theorem codeExit_ret : codeExit .ret = some .ret := rfl

theorem run_enterLoop_inner {l : Nat} {r : Loop} (h : w.heap[l]? = some (.loop r)) (fn : FuncId) (tmps : Array Value) (ps : Array Tmp) (assign body : Code) :
    (Instr.enterLoop fn tmps ps assign body (some l)).run P w = .ok (w.heap.size, []) (w.alloc (.loop { state := .ready, pending := none, fn, tmps, params := ps, assign, body, defers := r.defers })) := by
  unfold Instr.enterLoop
  simp only [Sem.run_bind, run_getLoop h, run_newObj_alloc, Result.andThen, Sem.run_pure]

/-- A range over a function. -/
theorem range_ok (hE : EnvOk P E) (hI : InlOk P E inl) (hIf : InlFn E inl) {fid : FuncId} {f : Operand} {ps : Array Tmp} {asg body : Code} : CodeOk P E (.rangeFunc f ps asg body) (walk E fid inl yld (.rangeFunc f ps asg body)) := by
  intro st Q h ro B0 β Z a w hs hm hro
  simp only [walk] at h
  split at h
  · rename_i g sh first nc cap hev
    have hfo := eval_ok hs.heap.gl hs.tm f
    rw [hev] at hfo
    obtain ⟨fs, cs, hv, q1, q2⟩ := fn_ok hfo
    have hfn := hIf _ _ _ _ _ _ h
    refine wpIn_rangeFunc fun fn _ => ?_
    -- the record is laid
    have main : ∀ (w0 : World) (r : Loop), Left E 0 (fun n => st.nx ≤ n) β Z st.hp w β Z st.hp w0 → r.tmps = a.tmps → r.params = ps → r.assign = asg → r.body = body → r.state = .ready → r.pending = none →
        ∀ (mark : List Deferred), Marks B0 ⟨β, Z, st.hp, st.nx, st.wl, w0⟩ (mark ++ a.defers) →
        (Instr.enterLoop fn a.tmps ps asg body (Fn ro).round).run P w = .ok (w0.heap.size, mark) (w0.alloc (.loop r)) →
        ∃ (l : Nat) (mark : List Deferred) (w₁ : World) (d : Deferred) (w₁' : World) (f_1 : FuncId) (args : Array Value) (w₂ : World),
          (Instr.enterLoop fn a.tmps ps asg body (Fn ro).round).run P w = .ok (l, mark) w₁ ∧ (resolve a.eval (rangeCall f l) 0).run P w₁ = .ok d w₁' ∧ (∀ f', Target.leads P w₁' d.target d.args = some f' → (Fn ro).fn f') ∧
          (invoke d.target d.args).run P w₁' = .ok (.enter f_1 args) w₂ ∧ ((Fn ro).depth.isSome = true → 1 ≤ 0) ∧
          CallsIn (Fn ro) (0 - 1) P f_1 args w₂ (rangePost (Fn ro) 0 P l (Post E B0 Q (.rangeFunc f ps asg body) (HS.of st β Z w) st.sz a) { a with defers := mark ++ a.defers }) := by
      intro w0 r left0 e1 e2 e3 e4 e5 e6 mark hmk hrun
      have ev1 := Evo.alloc (Own β st.hp) Z w0 (.loop r)
      have calm0 := left0.sat.calm
      have hno := left0.sat.fresh st.nx (Nat.le_refl _)
      have leftR := left0.sat.mk_obj (Nat.zero_le _) (nm := st.nx) (Nat.le_refl _) (o := .loop r) (ln := 0) (blk := .lp fid st.sz st.tm ps.toList asg body false none)
        (lp_mk (heap_alloc_new w0 _) (by rw [e1]; exact hs.sz) (fun t => by rw [e1]; exact RA.mono (left0.ev.trans ev1 (fun b h => .inl h)) hs.heap.calm (ext_upd hno) (hs.tm t)) (by rw [e2]) e3 e4 (by rw [e5]; rfl) (by rw [e6]; rfl))
      let x : HS := ⟨upd β st.nx (.at w0.heap.size 0), Z, putBusy st.hp st.nx fid st.sz st.tm ps.toList asg body false none, st.nx + 4, st.wl, w0.alloc (.loop r)⟩
      have TL : Turn (HS.of st β Z w) ⟨β, Z, st.hp, st.nx, st.wl, w0⟩ := Turn.of_left left0 (Nat.le_refl _) (fun _ h => h) (fun _ _ _ => rfl)
      have TR : Turn ⟨β, Z, st.hp, st.nx, st.wl, w0⟩ x := Turn.of_left leftR (Nat.le_add_right _ _) (fun _ h => h) (fun n hn _ => upd_ne _ _ (by omega))
      have T := TL.trans TR
      have xok : x.ok E := leftR.sat.weaken (fun n (hn : st.nx + 4 ≤ n) => ⟨by omega, by omega⟩)
      have up : ∀ {l : List TV} {vs : List Value}, RL β Z w l vs → RL x.β x.Z x.w l vs := by
        intro l
        induction l with
        | nil => intro vs h; cases vs with
          | nil => trivial
          | cons => exact h.elim
        | cons y l ih => intro vs h; cases vs with
          | nil => cases y <;> exact h.elim
          | cons v vs => exact ⟨RT.mono T.ev hs.heap.calm T.ext h.1, ih h.2⟩
      have hargs : RL x.β x.Z x.w (firstsOf sh first 0 ++ (.c (.yl st.nx) :: capsOf cap nc 0)) (fs.toList ++ (.func (.yield w0.heap.size) #[] #[] :: cs.toList)) :=
        (up q1).append (l' := .c (.yl st.nx) :: capsOf cap nc 0) ⟨⟨w0.heap.size, 0, upd_same _ _ _, rfl⟩, up q2⟩
      have hcall := hI g _ x _ h xok _ hargs
      refine ⟨w0.heap.size, mark, w0.alloc (.loop r), { target := .fn (.func g) cs, args := fs ++ #[.func (.yield w0.heap.size) #[] #[]] }, w0.alloc (.loop r), g, _, w0.alloc (.loop r), hrun, ?_, fun _ _ => trivial, ?_, fun hd => by simp [Fn, Fence.wide] at hd, CallsIn.mono hcall fun e w3 hpost => ?_⟩
      · have hv' : a.eval f = .func (.func g) fs cs := hv
        have hres : resolve a.eval (rangeCall f w0.heap.size) 0 = Deferred.ofValue (a.eval f) #[.func (.yield w0.heap.size) #[] #[]] := by
          have hc : ∀ v, a.eval (.const v) = v := fun _ => rfl
          simp [resolve, rangeCall, hc]
        rw [hres, hv']
        simp [Deferred.ofValue]
      · have := run_enter (w := w0.alloc (.loop r)) (args := (fs ++ #[.func (.yield w0.heap.size) #[] #[]]) ++ cs) (hE.runs g (.inl hfn))
        simp only [invoke]
        rw [this]
        congr 2
        apply Array.ext'
        simp
      · obtain ⟨val, v, y, rfl, hk, rfl, yok, _, yt⟩ := hpost
        have hβy : y.β st.nx = .at w0.heap.size 0 := yt.ext.at (upd_same _ _ _)
        -- the record at the end
        have fin : ∀ (fid' : FuncId) (sz' : Nat) (tm' : Nat → AV) (ps' : List Nat) (asg' body' : Code) (pend : Option Exit), y.hp st.nx = some (.lp fid' sz' tm' ps' asg' body' false pend) → ∃ w4, (Instr.endLoop w0.heap.size).run P y.w = .ok (pend.bind codeExit) w4 ∧
            ∀ e, Q e { st with hp := upd y.hp st.nx none, nx := y.nx, wl := y.wl } → Post E B0 Q (.rangeFunc f ps asg body) (HS.of st β Z w) st.sz a e { a with defers := mark ++ a.defers } w4 := by
          intro fid' sz' tm' ps' asg' body' pend hp'
          have hrb := yok.rb st.nx _ hp'
          rw [hβy] at hrb
          obtain ⟨p, p1, _, _, _, _, _, p7, p8⟩ := hrb
          have hstate : p.state ≠ .busy := by rw [p7]; cases pend <;> simp
          refine ⟨y.w.putObj w0.heap.size (.loop { p with state := .exhausted }), by rw [← p8]; exact run_endLoop p1 hstate, fun e hq => ?_⟩
          have leftE := yok.setLoop hp' hβy p1 (r' := { p with state := .exhausted }) ⟨rfl, rfl, rfl, rfl, rfl, rfl⟩ (ob := none) (fun blk h => by simp at h)
          have TE : Turn ⟨y.β, y.Z, y.hp, y.nx, [st.nx] ++ y.wl, y.w⟩ ⟨y.β, y.Z, upd y.hp st.nx none, y.nx, [st.nx] ++ y.wl, y.w.putObj w0.heap.size (.loop { p with state := .exhausted })⟩ :=
            Turn.of_left leftE (Nat.le_refl _) (fun _ h => h) (fun n _ hn => upd_ne _ _ (fun e => hn (by simp [e])))
          have TA := T.trans yt
          have TAll : Turn (HS.of st β Z w) ⟨y.β, y.Z, upd y.hp st.nx none, y.nx, y.wl, y.w.putObj w0.heap.size (.loop { p with state := .exhausted })⟩ := by
            refine ⟨TA.ev.trans TE.ev TA.own, TA.ext.trans TE.ext, fun b hb => ?_, fun b hb => TA.zown b hb, TA.nx, TA.wl, fun n hn hw => ?_⟩
            · rcases TE.own b hb with h1 | h1
              · exact TA.own b h1
              · exact .inr (Nat.le_trans TA.ev.size h1)
            · show upd y.hp st.nx none n = st.hp n
              rw [upd_ne _ _ (by simp [HS.of] at hn; omega)]
              exact TA.frame n hn hw
          have hm2 := (hmk.turn TR).turn yt
          refine ⟨{ st with hp := upd y.hp st.nx none, nx := y.nx, wl := y.wl }, y.β, y.Z, hq, ⟨leftE.sat, fun t => RA.mono TAll.ev hs.heap.calm TAll.ext (hs.tm t), hs.sz⟩, TAll, rfl, fun _ _ => rfl, ?_⟩
          obtain ⟨m0, l, ml, mn, mr⟩ := hm2
          refine ⟨by show B0 ≤ (y.w.putObj _ _).heap.size; simpa using m0, l, ml, mn, fun r hr => ?_⟩
          obtain ⟨z0, z1, z2, z3⟩ := mr r hr
          have hne : r ≠ w0.heap.size := fun e => by rw [e] at z1; rw [p1] at z1; simp at z1
          have z1' : (y.w.putObj w0.heap.size (.loop { p with state := .exhausted })).heap[r]? = some (.deferred (some [])) := by rw [World.putObj_heap_other hne]; exact z1
          exact ⟨z0, z1', not_own_deferred leftE.sat z1', z3⟩
        split at hk
        · rename_i hp'
          obtain ⟨w4, k1, k2⟩ := fin _ _ _ _ _ _ _ hp'
          exact ⟨none, w4, k1, k2 .normal hk⟩
        · rename_i hp'
          obtain ⟨w4, k1, k2⟩ := fin _ _ _ _ _ _ _ hp'
          exact ⟨some .ret, w4, k1, wpIn_ret (k2 .ret hk)⟩
        · rename_i hp'
          obtain ⟨w4, k1, k2⟩ := fin _ _ _ _ _ _ _ hp'
          exact ⟨some (.exit _), w4, k1, wpIn_exit (k2 (.exit _) hk)⟩
        · exact hk.elim
    cases ro with
    | none =>
      have left0 := hs.heap.alloc (.deferred (some []))
      have T0 : Turn (HS.of st β Z w) ⟨β, Z, st.hp, st.nx, st.wl, w.alloc (.deferred (some []))⟩ := Turn.of_left left0 (Nat.le_refl _) (fun _ h => h) (fun _ _ _ => rfl)
      have hrun := run_enterLoop_outer (P := P) (w := w) fn a.tmps ps asg body
      refine main (w.alloc (.deferred (some []))) { state := .ready, pending := none, fn := fn, tmps := a.tmps, params := ps, assign := asg, body := body, defers := w.heap.size } left0 rfl rfl rfl rfl rfl rfl [markOf w.heap.size] ?_ (by rw [World.size_alloc]; exact hrun)
      obtain ⟨m0, l, ml, mn, mr⟩ := hm
      obtain ⟨m0', l', ml', mn', mr'⟩ := Marks.turn (x := HS.of st β Z w) (ds := a.defers) ⟨m0, l, ml, mn, mr⟩ T0
      have hm0 : B0 ≤ w.heap.size := m0
      refine ⟨m0', w.heap.size :: l, by simp [ml], List.nodup_cons.2 ⟨fun hin => ?_, mn⟩, fun r hr => ?_⟩
      · have q1 : w.heap[w.heap.size]? = some (.deferred (some [])) := (mr _ hin).2.1
        simp at q1
      · rcases List.mem_cons.1 hr with rfl | hr
        · have hnew := heap_alloc_new w (.deferred (some []))
          exact ⟨hm0, hnew, not_own_deferred left0.sat hnew, fun hz => Nat.lt_irrefl _ (hs.heap.zlt _ hz)⟩
        · have hll : l.map markOf = l'.map markOf := ml.symm.trans ml'
          have inj : ∀ a b, markOf a = markOf b → a = b := fun a b e => by simp [markOf] at e; exact e
          have : l = l' := List.map_inj_right inj |>.1 hll
          exact mr' r (this ▸ hr)
    | some l0 =>
      obtain ⟨r0, hr0⟩ := hro l0 rfl
      exact main w { state := .ready, pending := none, fn := fn, tmps := a.tmps, params := ps, assign := asg, body := body, defers := r0.defers } (Left.same hs.heap (fun _ h => h)) rfl rfl rfl rfl rfl rfl [] hm (run_enterLoop_inner hr0 fn a.tmps ps asg body)
  · exact h.elim
end
end Go.Sx
