/- The framework Sx, part 12: operations that may be carried out in whatever order. -/
import Derived.Test.YthcplmlkgaiggaaSxWalk
set_option linter.unusedSimpArgs false
set_option linter.unusedVariables false
namespace Go.Sx
section
variable {P : Program} {E : Env} {β β' : Nat → Loc} {Z Z' : Nat → Prop} {hp : Hp} {w w' : World} {inl : CallVC} {yld : YieldVC}

/-- A block becomes another one, or is let go. -/
def setO (D : Option (Nat × Option Blk)) (hp : Hp) : Hp := match D with | some m => upd hp m.1 m.2 | none => hp

/-- What an operation does in whatever state that has what it looks at. -/
def StepSem (P : Program) (E : Env) (hpM : Hp) (tmM : Nat → AV) (nx : Nat) (o : Oper) (v : AV) (hp' : Hp) (D : Option (Nat × Option Blk)) : Prop :=
  ∀ (ro : Option Nat) (Fr : Nat → Prop) (β : Nat → Loc) (Z : Nat → Prop) (hp : Hp) (w : World) (a : Act) (Q' : Exit → Act → World → Prop), SatH E 0 Fr β Z hp w → (∀ n, nx ≤ n → n < nx + 4 → Fr n) →
    (∀ n blk, hpM n = some blk → hp n = some blk) → (∀ t, RA β Z w (tmM t) (a.tmps.getD t undef)) →
    o.wpIn (Fn ro) 0 P a w (fun a' w' => ∃ val β' Z', a' = a.put o.dst val ∧ RA β' Z' w' v val ∧ Left E 0 (fun n => Fr n ∧ ¬ (nx ≤ n ∧ n < nx + 4)) β Z hp w β' Z' (fun n => if nx ≤ n ∧ n < nx + 4 then hp' n else setO D hp n) w') Q'

theorem evenPre_val {R : ESpec} {args : List TV} {hp : Nat → Option Blk} {K : AV → Prop} (h : evenPre R args hp K) : ∃ v, evenPre R args hp (fun v' => v' = v) ∧ K v := by
  obtain ⟨g, hg, h⟩ := h
  split at h
  · rename_i ns hns
    obtain ⟨h1, h2, h3, h4, h5⟩ := h
    exact ⟨_, ⟨g, hg, by rw [hns]; exact ⟨h1, h2, h3, h4, rfl⟩⟩, h5⟩
  · exact h.elim

theorem Left.hp_eq {Fr' : Nat → Prop} {hp1 hp2 : Hp} (h : Left E 0 Fr' β Z hp w β' Z' hp1 w') (e : ∀ n, hp2 n = hp1 n) : Left E 0 Fr' β Z hp w β' Z' hp2 w' := by
  have : hp2 = hp1 := funext e
  rw [this]; exact h

/-- Truth that is known of an abstract state. -/
def KnT (kn : Nat → Option Bool) (tm : Nat → AV) : Prop := ∀ d t, kn d = some t → truth (tm d) = some t

theorem split_abs {kn : Nat → Option Bool} {d : Nat} {tm : Nat → AV} {K : (Nat → Option Bool) → Bool → Prop} (h : split kn d (tm d) K) (hk : KnT kn tm) : ∃ kn' t, K kn' t ∧ truth (tm d) = some t ∧ KnT kn' tm := by
  unfold split at h
  split at h
  · rename_i t ht
    exact ⟨kn, t, h, hk d t ht, hk⟩
  · have up : ∀ {b : Bool}, truth (tm d) = some b → KnT (upd kn d (some b)) tm := fun {b} hb d' b' h' => by
      by_cases e : d' = d
      · subst e; rw [upd_same] at h'; injection h' with h'; subst h'; exact hb
      · rw [upd_ne _ _ e] at h'; exact hk d' b' h'
    split at h
    · rename_i hd; exact ⟨kn, true, h, by rw [hd]; rfl, hk⟩
    · rename_i hd; exact ⟨kn, false, h, by rw [hd]; rfl, hk⟩
    · rename_i b hd
      have hb : truth (tm d) = some b := by rw [hd]; rfl
      cases b
      · exact ⟨_, false, h.2 rfl, hb, up hb⟩
      · exact ⟨_, true, h.1 rfl, hb, up hb⟩
    · exact h.elim

theorem forget_abs {kn : Nat → Option Bool} {tm : Nat → AV} {dst : Option Nat} {v : AV} (h : KnT kn tm) : KnT (forget kn dst) (match dst with | some d => upd tm d v | none => tm) := fun d b hb => by
  cases dst with
  | none => exact h d b hb
  | some e =>
    simp only [forget] at hb
    by_cases e1 : d = e
    · subst e1; rw [upd_same] at hb; simp at hb
    · rw [upd_ne _ _ e1] at hb
      simp only; rw [upd_ne _ _ e1]; exact h d b hb

theorem masked_mem {tm : Nat → AV} {l : List Nat} {t : Nat} (h : t ∈ l) : masked tm l t = tm t := by
  unfold masked
  have : l.any (Nat.beq t) = true := List.any_eq_true.2 ⟨t, h, Nat.beq_refl t⟩
  rw [this]

theorem masked_or {tm : Nat → AV} {l : List Nat} {t : Nat} : (t ∈ l ∧ masked tm l t = tm t) ∨ masked tm l t = .any := by
  unfold masked
  cases h : l.any (Nat.beq t) with
  | true =>
    obtain ⟨x, hx, e⟩ := List.any_eq_true.1 h
    have := Nat.eq_of_beq_eq_true e
    subst this
    exact .inl ⟨hx, rfl⟩
  | false => exact .inr rfl

theorem steady_one (hE : EnvOk P E) {may : Nat → Bool} {base ib bits : Nat} {ops : List Oper} {kn : Nat → Option Bool} {o : Oper} {st : St} {K : (Nat → Option Bool) → St → Prop} (h : vcSteadyOne E may base ib bits (looks ops o) kn o st K) (hk : KnT kn st.tm) (hfree : ∀ n, st.nx ≤ n → st.hp n = none) :
    st.has o.dst = true ∧ ∃ kn' v hp' D, KnT kn' (st.next o.dst v hp' (st.nx + 4) st.wl).tm ∧ K kn' (st.next o.dst v hp' (st.nx + 4) st.wl) ∧ (∀ n, ¬ (st.nx ≤ n ∧ n < st.nx + 4) → hp' n = setO D st.hp n) ∧ (∀ n x, D = some (n, x) → may n = true ∧ n < st.nx) ∧
      StepSem P E (maskHp base ib bits st.hp) (masked st.tm (looks ops o)) st.nx o v hp' D := by
  unfold vcSteadyOne at h
  split at h
  · rename_i hh
    refine ⟨hh, ?_⟩
    split at h
    · rename_i c x y hop
      obtain ⟨kn', t, h1, h2, h3⟩ := split_abs h hk
      refine ⟨forget kn' o.dst, _, st.hp, none, forget_abs h3, h1, fun _ _ => rfl, fun _ _ h => by simp at h, ?_⟩
      intro ro Fr β Z hp w a Q' hs hFr hsub ht
      refine ⟨fun _ _ => trivial, ?_⟩
      rw [Oper.semAt_eq _ _ _ (fun c hc => by rw [hop] at hc; simp at hc)]
      have hc : c ∈ looks ops o := List.mem_append_left _ (by unfold tmpsOf; rw [hop]; simp [Op.operands])
      have hb := ht c
      rw [masked_mem hc] at hb
      have hb' := truth_ok hb h2
      have hrun : (execOp a.eval o).run P w = .ok (.value (if t then a.eval x else a.eval y)) w := by
        have : a.eval (.tmp c) = .bool t := hb'
        simp [execOp, hop, this, asBool]
      rw [hrun]
      refine ⟨_, β, Z, rfl, ?_, (Left.same hs (fun n hn => hn.1)).hp_eq (fun n => ?_)⟩
      · cases t
        · exact eval_ok hs.gl ht y
        · exact eval_ok hs.gl ht x
      · split
        · rename_i hr; rw [hfree n hr.1]; exact (not_known hs (hs.fresh n (hFr n hr.1 hr.2))).symm
        · rfl
    · rename_i hnp
      have nodef : ∀ c, o.op ≠ .defer c := by
        intro c hc
        have : planOp E (masked st.tm (looks ops o)) (maskHp base ib bits st.hp) o = .bad := by unfold planOp; rw [hc]
        rw [this] at h
        exact h
      generalize hp0 : planOp E (masked st.tm (looks ops o)) (maskHp base ib bits st.hp) o = p at h
      cases p with
      | bad => exact h.elim
      | fz => exact h.elim
      | wz => exact h.elim
      | ycall => exact h.elim
      | ok c v =>
        simp only [vcSteady, conj_iff] at h
        refine ⟨forget kn o.dst, v, st.hp, none, forget_abs hk, h.2, fun _ _ => rfl, fun _ _ h => by simp at h, ?_⟩
        intro ro Fr β Z hp w a Q' hs hFr hsub ht
        refine ⟨fun _ _ => trivial, ?_⟩
        rw [Oper.semAt_eq _ _ _ nodef]
        obtain ⟨nx, val, w', β', Z', hrun, hnx, hl, hv⟩ := op_ok hE.tab hE.maps hs (Nat.zero_le _) (nm := st.nx) (hFr _ (Nat.le_refl _) (by omega)) hsub ht (o := o) (hp' := hp) (v := v) (by rw [hp0]; exact h.1) (by rw [hp0]; rfl)
        rw [hrun]
        have hl' : Left E 0 (fun n => Fr n ∧ ¬ (st.nx ≤ n ∧ n < st.nx + 4)) β Z hp w β' Z' (fun n => if st.nx ≤ n ∧ n < st.nx + 4 then st.hp n else hp n) w' :=
          Left.hp_eq ⟨hl.sat.weaken (fun n hn => ⟨hn.1, by omega⟩), hl.ev, hl.ext, hl.own, hl.zown⟩ (fun n => by
            split
            · rename_i hr; rw [hfree n hr.1]; exact (not_known hs (hs.fresh n (hFr n hr.1 hr.2))).symm
            · rfl)
        rcases hnx with rfl | ⟨rfl, rfl⟩
        · exact ⟨val, β', Z', rfl, hv, hl'⟩
        · exact ⟨undef, β', Z', rfl, hv, hl'⟩
      | mk c b v =>
        simp only [vcSteady, conj_iff] at h
        refine ⟨forget kn o.dst, v st.nx, upd st.hp st.nx (some b), none, forget_abs hk, h.2, fun n hn => upd_ne _ _ (by omega), fun _ _ h => by simp at h, ?_⟩
        intro ro Fr β Z hp w a Q' hs hFr hsub ht
        refine ⟨fun _ _ => trivial, ?_⟩
        rw [Oper.semAt_eq _ _ _ nodef]
        obtain ⟨nx, val, w', β', Z', hrun, hnx, hl, hv⟩ := op_ok hE.tab hE.maps hs (Nat.zero_le _) (nm := st.nx) (hFr _ (Nat.le_refl _) (by omega)) hsub ht (o := o) (hp' := upd hp st.nx (some b)) (v := v st.nx) (by rw [hp0]; exact h.1) (by rw [hp0]; rfl)
        rw [hrun]
        have hl' : Left E 0 (fun n => Fr n ∧ ¬ (st.nx ≤ n ∧ n < st.nx + 4)) β Z hp w β' Z' (fun n => if st.nx ≤ n ∧ n < st.nx + 4 then upd st.hp st.nx (some b) n else hp n) w' :=
          Left.hp_eq ⟨hl.sat.weaken (fun n hn => ⟨hn.1, by omega⟩), hl.ev, hl.ext, hl.own, hl.zown⟩ (fun n => by
            by_cases e : n = st.nx
            · subst e; simp [upd_same]
            · rw [upd_ne _ _ e, upd_ne _ _ e]
              split
              · rename_i hr; rw [hfree n hr.1]; exact (not_known hs (hs.fresh n (hFr n hr.1 hr.2))).symm
              · rfl)
        rcases hnx with rfl | ⟨rfl, rfl⟩
        · exact ⟨val, β', Z', rfl, hv, hl'⟩
        · exact ⟨undef, β', Z', rfl, hv, hl'⟩
      | mv c n b v =>
        simp only [vcSteady] at h
        split at h
        · rename_i hmay
          simp only [Bool.and_eq_true] at hmay
          have hlt : n < st.nx := Nat.le_of_ble_eq_true hmay.2
          rw [conj_iff] at h
          refine ⟨forget kn o.dst, v st.nx, upd (upd st.hp n none) st.nx (some b), some (n, none), forget_abs hk, h.2, fun q hq => upd_ne _ _ (by omega), fun q x hq => by injection hq with hq; injection hq with h1 h2; subst h1; exact ⟨hmay.1, hlt⟩, ?_⟩
          intro ro Fr β Z hp w a Q' hs hFr hsub ht
          refine ⟨fun _ _ => trivial, ?_⟩
          rw [Oper.semAt_eq _ _ _ nodef]
          obtain ⟨nx, val, w', β', Z', hrun, hnx, hl, hv⟩ := op_ok hE.tab hE.maps hs (Nat.zero_le _) (nm := st.nx) (hFr _ (Nat.le_refl _) (by omega)) hsub ht (o := o) (hp' := upd (upd hp n none) st.nx (some b)) (v := v st.nx) (by rw [hp0]; exact h.1) (by rw [hp0]; rfl)
          rw [hrun]
          have hl' : Left E 0 (fun n => Fr n ∧ ¬ (st.nx ≤ n ∧ n < st.nx + 4)) β Z hp w β' Z' (fun q => if st.nx ≤ q ∧ q < st.nx + 4 then upd (upd st.hp n none) st.nx (some b) q else setO (some (n, none)) hp q) w' :=
            Left.hp_eq ⟨hl.sat.weaken (fun n hn => ⟨hn.1, by omega⟩), hl.ev, hl.ext, hl.own, hl.zown⟩ (fun q => by
              by_cases e : q = st.nx
              · subst e; simp [upd_same]
              · rw [upd_ne _ _ e, upd_ne _ _ e]
                split
                · rename_i hr; rw [upd_ne _ _ (by omega), upd_ne _ _ (by omega), hfree q hr.1]; exact (not_known hs (hs.fresh q (hFr q hr.1 hr.2))).symm
                · rfl)
          rcases hnx with rfl | ⟨rfl, rfl⟩
          · exact ⟨val, β', Z', rfl, hv, hl'⟩
          · exact ⟨undef, β', Z', rfl, hv, hl'⟩
        · exact h.elim
      | wr c n b =>
        simp only [vcSteady] at h
        split at h
        · rename_i hmay
          simp only [Bool.and_eq_true] at hmay
          have hlt : n < st.nx := Nat.le_of_ble_eq_true hmay.2
          rw [conj_iff] at h
          refine ⟨forget kn o.dst, .any, upd st.hp n (some b), some (n, some b), forget_abs hk, h.2, fun q hq => rfl, fun q x hq => by injection hq with hq; injection hq with h1 h2; subst h1; exact ⟨hmay.1, hlt⟩, ?_⟩
          intro ro Fr β Z hp w a Q' hs hFr hsub ht
          refine ⟨fun _ _ => trivial, ?_⟩
          rw [Oper.semAt_eq _ _ _ nodef]
          obtain ⟨nx, val, w', β', Z', hrun, hnx, hl, hv⟩ := op_ok hE.tab hE.maps hs (Nat.zero_le _) (nm := st.nx) (hFr _ (Nat.le_refl _) (by omega)) hsub ht (o := o) (hp' := upd hp n (some b)) (v := .any) (by rw [hp0]; exact h.1) (by rw [hp0]; rfl)
          rw [hrun]
          have hl' : Left E 0 (fun n => Fr n ∧ ¬ (st.nx ≤ n ∧ n < st.nx + 4)) β Z hp w β' Z' (fun q => if st.nx ≤ q ∧ q < st.nx + 4 then upd st.hp n (some b) q else setO (some (n, some b)) hp q) w' :=
            Left.hp_eq ⟨hl.sat.weaken (fun n hn => ⟨hn.1, by omega⟩), hl.ev, hl.ext, hl.own, hl.zown⟩ (fun q => by
              split
              · rename_i hr; rw [upd_ne _ _ (by omega), upd_ne _ _ (by omega), hfree q hr.1]; exact (not_known hs (hs.fresh q (hFr q hr.1 hr.2))).symm
              · rfl)
          rcases hnx with rfl | ⟨rfl, rfl⟩
          · exact ⟨val, β', Z', rfl, hv, hl'⟩
          · exact ⟨undef, β', Z', rfl, hv, hl'⟩
        · exact h.elim
      | call f args =>
        simp only [vcSteady] at h
        split at h
        · rename_i s hsig
          split at h
          · rename_i pargs hpure
            obtain ⟨x, hq1, hq2, h⟩ := h
            have hq := And.intro hq1 hq2
            split at h
            · rename_i hle
              have hle' := hle
              simp only [Bool.and_eq_true] at hle'
              have hle4 := Nat.le_of_ble_eq_true hle'.1
              have main : (∀ (hp : Hp), (ownTVs args = [] ∧ hp = hp) ∨ (flatRVs (s.res x) = true ∧ AllP (flatOwns (s.res x)) ∧ hp = hp) ∨ hp = dropAll hp (ownTVs args)) → K (forget kn o.dst) (st.next o.dst (resAV (resTVs (s.res x) st.nx)) (resHp st.hp (s.res x) st.nx) (st.nx + 4) st.wl) →
                  ∃ kn' v hp' D, KnT kn' (st.next o.dst v hp' (st.nx + 4) st.wl).tm ∧ K kn' (st.next o.dst v hp' (st.nx + 4) st.wl) ∧ (∀ n, ¬ (st.nx ≤ n ∧ n < st.nx + 4) → hp' n = setO D st.hp n) ∧ (∀ n x, D = some (n, x) → may n = true ∧ n < st.nx) ∧ StepSem P E (maskHp base ib bits st.hp) (masked st.tm (looks ops o)) st.nx o v hp' D := by
                intro hmode hK
                refine ⟨forget kn o.dst, _, _, none, forget_abs hk, hK, fun n hn => resHp_get (by omega), fun _ _ h => by simp at h, ?_⟩
                intro ro Fr β Z hp w a Q' hs hFr hsub ht
                refine ⟨fun _ _ => trivial, ?_⟩
                rw [Oper.semAt_eq _ _ _ nodef]
                obtain ⟨c, fo, l, hop, hcal, hargs, hcase⟩ := plan_call (tm := masked st.tm (looks ops o)) (hp := maskHp base ib bits st.hp) (E := E) (o := o) (by rw [hp0]; exact fun h => h)
                have hl := args_ok hs.gl ht hargs
                have hfo := eval_ok hs.gl ht fo
                rcases hcase with ⟨g, sh, first, nc, cap, hev, hplan⟩ | ⟨n, hev, hplan⟩
                · rw [hp0] at hplan
                  injection hplan with e1 e2
                  subst e1
                  rw [hev] at hfo
                  obtain ⟨fs, cs, hv, q1, q2⟩ := fn_ok hfo
                  have hrl : RL β Z w args (fs.toList ++ c.args.toList.map a.eval ++ cs.toList) := by rw [e2]; exact (q1.append hl).append q2
                  have hrun : (execOp a.eval o).run P w = .ok (.enter f (fs.toList ++ c.args.toList.map a.eval ++ cs.toList).toArray) w := by
                    have hex : execOp a.eval o = (do let d ← resolve a.eval c o.type; invoke d.target d.args) := by simp [execOp, hop]
                    rw [hex]
                    have := run_enter (w := w) (args := (fs ++ c.args.map a.eval) ++ cs) (hE.runs f (.inr (by rw [hsig]; rfl)))
                    simp only [resolve, hcal, hv, Deferred.ofValue, Sem.run_bind, Sem.run_pure, Result.andThen_ok, invoke]
                    rw [this]
                    congr 2
                    apply Array.ext'
                    simp
                  rw [hrun]
                  refine ⟨fun hd => by simp [Fn, Fence.wide] at hd, ?_⟩
                  refine CallsIn.mono (sig_core hE hsig hq hs hFr hsub hpure hle hrl (base := hp) (hmode hp)) (R' := fun
                    | .returned v, w' => ∃ val β' Z', a.put o.dst v = a.put o.dst val ∧ RA β' Z' w' (resAV (resTVs (s.res x) st.nx)) val ∧ Left E 0 (fun n => Fr n ∧ ¬ (st.nx ≤ n ∧ n < st.nx + 4)) β Z hp w β' Z' (fun n => if st.nx ≤ n ∧ n < st.nx + 4 then resHp st.hp (s.res x) st.nx n else hp n) w'
                    | .panicked chain, w' => Q' (.panic chain) a w'
                    | .outgrown, _ => LetsOut Q') fun e w' ⟨val, β', Z', he, hL, hV⟩ => by
                      subst he
                      refine ⟨val, β', Z', rfl, hV, hL.hp_eq (fun n => ?_)⟩
                      by_cases hr : st.nx ≤ n ∧ n < st.nx + 4
                      · rw [if_pos hr]
                        by_cases hr2 : n < st.nx + ownCount (s.res x)
                        · obtain ⟨e, size, len, get, k1, k2, _⟩ := resHp_own (base := hp) (rs := s.res x) (m := st.nx) (i := n - st.nx) (by omega)
                          rw [show st.nx + (n - st.nx) = n by omega] at k1
                          have k2' := k2 st.hp st.nx
                          rw [show st.nx + (n - st.nx) = n by omega] at k2'
                          rw [k1, k2']
                        · rw [resHp_get (by omega), resHp_get (by omega), hfree n hr.1]
                          exact (not_known hs (hs.fresh n (hFr n hr.1 hr.2))).symm
                      · rw [if_neg hr, resHp_get (by omega)]
                · rw [hp0] at hplan; simp at hplan
              split at h
              · rename_i hemp
                exact main (fun hp => .inl ⟨by simpa [List.isEmpty_iff] using hemp, rfl⟩) h
              · split at h
                · rename_i hfl
                  rw [conj_iff] at h
                  exact main (fun hp => .inr (.inl ⟨hfl, h.1, rfl⟩)) h.2
                · exact h.elim
            · exact h.elim
          · exact h.elim
        · split at h
          · rename_i R _ _ heven
            obtain ⟨hfn, hpre⟩ := h
            obtain ⟨g, _, _⟩ := id hpre
            have hstep : ∃ v, K (forget kn o.dst) (st.next o.dst v st.hp (st.nx + 4) st.wl) ∧ StepSem P E (maskHp base ib bits st.hp) (masked st.tm (looks ops o)) st.nx o v st.hp none := by
              obtain ⟨v, hv⟩ := evenPre_val hpre
              refine ⟨v, hv.2, ?_⟩
              intro ro Fr β Z hp w a Q' hs hFr hsub ht
              refine ⟨fun _ _ => trivial, ?_⟩
              rw [Oper.semAt_eq _ _ _ nodef]
              obtain ⟨c, fo, l, hop, hcal, hargs, hcase⟩ := plan_call (tm := masked st.tm (looks ops o)) (hp := maskHp base ib bits st.hp) (E := E) (o := o) (by rw [hp0]; exact fun h => h)
              have hl := args_ok hs.gl ht hargs
              have hfo := eval_ok hs.gl ht fo
              rcases hcase with ⟨g, sh, first, nc, cap, hev, hplan⟩ | ⟨n, hev, hplan⟩
              · rw [hp0] at hplan
                injection hplan with e1 e2
                subst e1
                rw [hev] at hfo
                obtain ⟨fs, cs, hv', q1, q2⟩ := fn_ok hfo
                have hrl : RL β Z w args (fs.toList ++ c.args.toList.map a.eval ++ cs.toList) := by rw [e2]; exact (q1.append hl).append q2
                have hrun : (execOp a.eval o).run P w = .ok (.enter f (fs.toList ++ c.args.toList.map a.eval ++ cs.toList).toArray) w := by
                  have hex : execOp a.eval o = (do let d ← resolve a.eval c o.type; invoke d.target d.args) := by simp [execOp, hop]
                  rw [hex]
                  have := run_enter (w := w) (args := (fs ++ c.args.map a.eval) ++ cs) (hE.runs f (.inl hfn))
                  simp only [resolve, hcal, hv', Deferred.ofValue, Sem.run_bind, Sem.run_pure, Result.andThen_ok, invoke]
                  rw [this]
                  congr 2
                  apply Array.ext'
                  simp
                rw [hrun]
                refine ⟨fun hd => by simp [Fn, Fence.wide] at hd, ?_⟩
                refine CallsIn.mono (even_core (fun g hg => hE.even f R g heven hg) (hv.1) hs hsub hrl) (R' := fun
                  | .returned u, w' => ∃ val β' Z', a.put o.dst u = a.put o.dst val ∧ RA β' Z' w' v val ∧ Left E 0 (fun n => Fr n ∧ ¬ (st.nx ≤ n ∧ n < st.nx + 4)) β Z hp w β' Z' (fun n => if st.nx ≤ n ∧ n < st.nx + 4 then st.hp n else setO none hp n) w'
                  | .panicked chain, w' => Q' (.panic chain) a w'
                  | .outgrown, _ => LetsOut Q') fun e w' ⟨val, v', Z', he, hkv, hV, hL⟩ => by
                    subst he
                    have hkv : v' = v := hkv
                    subst hkv
                    refine ⟨val, β, Z', rfl, hV, Left.hp_eq ⟨hL.sat.weaken (fun n hn => hn.1), hL.ev, hL.ext, hL.own, hL.zown⟩ (fun n => ?_)⟩
                    split
                    · rename_i hr; rw [hfree n hr.1]; exact (not_known hs (hs.fresh n (hFr n hr.1 hr.2))).symm
                    · rfl
              · rw [hp0] at hplan; simp at hplan
            obtain ⟨v, hv1, hv2⟩ := hstep
            exact ⟨forget kn o.dst, v, st.hp, none, forget_abs hk, hv1, fun _ _ => rfl, fun _ _ h => by simp at h, hv2⟩
          · exact h.elim
  · exact h.elim
end
end Go.Sx
