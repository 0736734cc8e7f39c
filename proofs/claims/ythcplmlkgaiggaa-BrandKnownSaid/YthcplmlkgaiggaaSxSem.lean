/- The framework Sx, part 6: one operation's conditions are sound. -/
import Derived.Test.YthcplmlkgaiggaaSxFit
import Derived.TacticsIn
set_option linter.unusedSimpArgs false
set_option linter.unusedVariables false
namespace Go.Sx

/-- Where code is walked: everything let in; within a round, or not. -/
def Fn (ro : Option Nat) : Fence := { Fence.wide with round := ro }

structure Sat (E : Env) (st : St) (β : Nat → Loc) (Z : Nat → Prop) (a : Act) (w : World) : Prop where
  heap : SatH E 0 (fun n => st.nx ≤ n) β Z st.hp w
  tm : ∀ t, RA β Z w (st.tm t) (a.tmps.getD t undef)
  sz : a.tmps.size = st.sz

def HS.of (st : St) (β : Nat → Loc) (Z : Nat → Prop) (w : World) : HS := ⟨β, Z, st.hp, st.nx, st.wl, w⟩

/-- What is known of a program's functions. -/
structure EnvOk (P : Program) (E : Env) : Prop where
  tab : TabOk P E
  fn : ∀ f fn, E.fn f = some fn → P.funcs[f]? = some fn
  runs : ∀ f, (E.fn f).isSome = true ∨ (E.sig f).isSome = true → ∃ fn c, P.funcs[f]? = some fn ∧ (fn.name == "runtime.NumGoroutine") = false ∧ fn.body = some c
  sig : ∀ f s x, E.sig f = some s → s.pre x → CallQ P E f (s.arg x) (s.res x)
  mix : P.follows .mixedOrders = true
  maps : MapsOk P E
  again : ∀ f R g, E.again f = some R → R.ok g → SemRec P E f R g
  kept : ∀ f R g, E.kept f = some R → R.ok g → SemK P E f R g
  even : ∀ f R g, E.even f = some R → R.ok g → SemK P E f R.toK g

/-- What a call leaves. -/
def CallPost (E : Env) (x : HS) (K : AV → Hp → Nat → List Nat → Prop) : Ending → World → Prop := fun e w' =>
  ∃ val v y, e = .returned val ∧ K v y.hp y.nx y.wl ∧ y.w = w' ∧ y.ok E ∧ RA y.β y.Z w' v val ∧ Turn x y

def InlOk (P : Program) (E : Env) (inl : CallVC) : Prop :=
  ∀ (f : FuncId) (args : List TV) (x : HS) K, inl f args x.hp x.nx x.wl K → x.ok E → ∀ vs : List Value, RL x.β x.Z x.w args vs → CallsIn Fence.wide 0 P f vs.toArray x.w (CallPost E x K)

def InlFn (E : Env) (inl : CallVC) : Prop := ∀ f args hp nx wl K, inl f args hp nx wl K → (E.fn f).isSome = true

def YldOk (P : Program) (E : Env) (yld : YieldVC) : Prop :=
  ∀ (n : Nat) (args : List TV) (x : HS) K, yld n args x.hp x.nx x.wl K → x.ok E → ∀ vs : List Value, RL x.β x.Z x.w args vs → ∃ b ln r, x.β n = .at b ln ∧ x.w.heap[b]? = some (.loop r) ∧ vs.toArray.size = r.params.size ∧
    RoundIn Fence.wide 0 P b r.fn ((r.params.zip vs.toArray).foldl (fun tmps (t, a) => tmps.setIfInBounds t a) r.tmps) r.assign r.body x.w (CallPost E x K)

/-- What an operation leaves. -/
def OpPost (E : Env) (x : HS) (sz : Nat) (dst : Option Nat) (a : Act) (K : St → Prop) : Act → World → Prop := fun a' w' =>
  ∃ st' β' Z', K st' ∧ Sat E st' β' Z' a' w' ∧ Turn x (HS.of st' β' Z' w') ∧ st'.sz = sz ∧ (∀ t, dst ≠ some t → a'.tmps.getD t undef = a.tmps.getD t undef) ∧ a'.defers = a.defers

section
variable {P : Program} {E : Env} {β β' : Nat → Loc} {Z Z' : Nat → Prop} {hp : Hp} {w w' : World} {inl : CallVC} {yld : YieldVC}

theorem getD_put {a : Act} {dst : Option Nat} {v : Value} {t : Nat} : (a.put dst v).tmps.getD t undef = if dst = some t ∧ t < a.tmps.size then v else a.tmps.getD t undef := by
  cases dst with
  | none => simp [Act.put]
  | some d =>
    simp only [Act.put, Option.some.injEq]
    by_cases h : d = t
    · subst h
      by_cases h2 : d < a.tmps.size
      · simp [h2, Array.getD]
      · simp [h2, Array.getD]
    · simp only [h, false_and, if_false]
      simp [Array.getD_eq_getD_getElem?, Array.getElem?_setIfInBounds_ne h]

theorem Sat.next {st : St} {a : Act} {dst : Option Nat} {v : AV} {val : Value} {y : HS} (hs : Sat E st β Z a w) (hd : st.has dst = true) (hy : y.ok E) (hev : Evo (Own β st.hp) Z w y.Z y.w) (hext : Ext β y.β)
    (hv : RA y.β y.Z y.w v val) : Sat E (st.next dst v y.hp y.nx y.wl) y.β y.Z (a.put dst val) y.w := by
  refine ⟨hy, fun t => ?_, ?_⟩
  · have old := RA.mono hev hs.heap.calm hext (hs.tm t)
    rw [getD_put]
    cases dst with
    | none => simp only [St.next]; rw [if_neg (by simp)]; exact old
    | some d =>
      simp only [St.next]
      by_cases h : d = t
      · subst h
        have hlt : d < a.tmps.size := by
          rw [hs.sz]; simp only [St.has] at hd; exact Nat.le_of_ble_eq_true hd
        rw [if_pos ⟨rfl, hlt⟩, upd_same]; exact hv
      · rw [if_neg (by simp [h]), upd_ne _ _ (Ne.symm h)]; exact old
  · have : (a.put dst val).tmps.size = a.tmps.size := by cases dst <;> simp [Act.put]
    rw [this]; exact hs.sz

theorem OpPost.of {st : St} {a : Act} {dst : Option Nat} {v : AV} {val : Value} {y : HS} {K : St → Prop} (hs : Sat E st β Z a w) (hd : st.has dst = true) (hy : y.ok E) (ht : Turn (HS.of st β Z w) y)
    (hv : RA y.β y.Z y.w v val) (hk : K (st.next dst v y.hp y.nx y.wl)) : OpPost E (HS.of st β Z w) st.sz dst a K (a.put dst val) y.w := by
  refine ⟨_, y.β, y.Z, hk, hs.next hd hy ht.ev ht.ext hv, ht, rfl, fun t h => ?_, ?_⟩
  · rw [getD_put, if_neg (fun hh => h hh.1)]
  · cases dst <;> rfl

/-! #### Plans that call -/

def noCall : Plan → Prop
  | .call _ _ => False
  | .ycall _ _ => False
  | _ => True

theorem okBad.noCall {p : Plan} (h : okBad p) : noCall p := by cases p <;> first | trivial | exact h.elim
theorem noCall_need {b : Bool} {p : Plan} (h : noCall p) : noCall (need b p) := by cases b <;> trivial
theorem noCall_store {ti : TI} {x y : AV} : noCall (planStore hp ti x y) := by
  unfold planStore; repeat' split
  all_goals first | trivial | exact noCall_need trivial
theorem noCall_storeF {ti : TI} {x y : AV} : noCall (planStoreF hp ti x y) := by
  unfold planStoreF; repeat' split
  all_goals first | trivial | exact noCall_store
theorem noCall_buildSlice {ti : TI} {n : Nat} {l : List (Nat × AV)} : noCall (planBuildSlice E ti n l) := by
  unfold planBuildSlice; repeat' split
  all_goals first | trivial | exact noCall_need trivial
theorem noCall_makeSlice {ti : TI} {x y : AV} : noCall (planMakeSlice E ti x y) := by
  unfold planMakeSlice; repeat' split
  all_goals first | trivial | exact noCall_need trivial
theorem noCall_append {ti : TI} {x y : AV} : noCall (planAppend E hp ti x y) := by
  unfold planAppend Plan.cell; repeat' split
  all_goals first | trivial | exact noCall_need trivial
theorem noCall_slice {ti : TI} {x : AV} {a b c : Option AV} : noCall (planSlice E hp ti x a b c) := by
  unfold planSlice Plan.cell; repeat' split
  all_goals first | trivial | exact noCall_need trivial

theorem noCall_buildF {ti : TI} {l : List (Nat × AV)} : noCall (planBuildF hp E ti l) := by
  obtain ⟨h1, h2⟩ := noCallF_build (hp := hp) (E := E) (ti := ti) (l := l)
  generalize planBuildF hp E ti l = p at h1 h2
  cases p <;> first | trivial | exact absurd rfl (h1 _ _) | exact absurd rfl (h2 _ _)

theorem noCall_update {T : MapT} {x k y : AV} : noCall (planMapUpdate hp T x k y) := by
  unfold planMapUpdate; repeat' split
  all_goals first | trivial | exact noCall_need trivial

theorem noCall_upd {T : MapT} {x k y : AV} : noCall (planMapUpd hp T x k y) := by
  unfold planMapUpd; repeat' split
  all_goals first | trivial | exact noCall_need trivial | exact noCall_update

theorem plan_call {tm : Nat → AV} {o : Oper} (h : ¬ noCall (planOp E tm hp o)) : ∃ c fo l, o.op = .call c ∧ c.callee = .value fo ∧ argTVs E tm c.args.toList = some l ∧
    ((∃ g sh first nc cap, evalO E tm fo = .t (.c (.fn g sh first nc cap)) ∧ planOp E tm hp o = .call g (firstsOf sh first 0 ++ l ++ capsOf cap nc 0)) ∨ (∃ n, evalO E tm fo = .t (.c (.yl n)) ∧ planOp E tm hp o = .ycall n l)) := by
  generalize hp0 : planOp E tm hp o = p at h ⊢
  have no : noCall p → ∀ {q : Prop}, q := fun h1 => absurd h1 h
  unfold planOp at hp0
  dsimp only at hp0
  split at hp0
  case h_23 c hop =>
    unfold planCall at hp0
    split at hp0
    · repeat' split at hp0
      all_goals (subst hp0; first | exact absurd trivial h | exact absurd okBad_len.noCall h)
    · repeat' split at hp0
      all_goals (subst hp0; first | exact absurd trivial h | exact absurd (noCall_need noCall_append) h | exact absurd (noCall_need (p := .bad) trivial) h)
    · subst hp0; exact absurd okBad_mm.noCall h
    · subst hp0; exact absurd okBad_mm.noCall h
    · rename_i fo hcal
      split at hp0
      · rename_i g sh first nc cap l e1 e2
        exact ⟨c, fo, l, hop, hcal, e2, .inl ⟨g, sh, first, nc, cap, e1, hp0.symm⟩⟩
      · rename_i n l e1 e2
        exact ⟨c, fo, l, hop, hcal, e2, .inr ⟨n, e1, hp0.symm⟩⟩
      · subst hp0; exact absurd trivial h
    · subst hp0; exact absurd trivial h
  all_goals first
    | (subst hp0; exact absurd trivial h)
    | (subst hp0; exact absurd okBad_un.noCall h)
    | (subst hp0; exact absurd okBad_func.noCall h)
    | (repeat' split at hp0
       all_goals (subst hp0; first
         | exact absurd trivial h
         | exact absurd okBad_build.noCall h
         | exact absurd noCall_buildF h
         | exact absurd noCall_buildSlice h
         | exact absurd okBad_load.noCall h
         | exact absurd noCall_storeF h
         | exact absurd okBad_bin.noCall h
         | exact absurd okBad_conv.noCall h
         | exact absurd noCall_makeSlice h
         | exact absurd noCall_slice h
         | exact absurd okBad_fieldAddr.noCall h
         | exact absurd okBad_field.noCall h
         | exact absurd okBad_indexAddr.noCall h
         | exact absurd okBad_index.noCall h
         | exact absurd okBad_lookup.noCall h
         | exact absurd noCall_upd h
         | (refine absurd (noCall_need ?_) h; trivial)))

theorem RL.append : ∀ {l l' : List TV} {r r' : List Value}, RL β Z w l r → RL β Z w l' r' → RL β Z w (l ++ l') (r ++ r')
  | [], l', [], r', _, h => h
  | x :: l, l', v :: r, r', h, h' => ⟨h.1, RL.append h.2 h'⟩
  | [], _, _ :: _, _, h, _ => h.elim
  | x :: _, _, [], _, h, _ => by cases x <;> exact h.elim

theorem firsts_ok {first : Nat → Nat → CV} : ∀ {sh : List (Option Nat)} {fs : List Value} {i : Nat}, fs.length = sh.length →
    (∀ (k : Nat) (s : Option Nat), sh[k]? = some s → ∃ u, fs[k]? = some u ∧ (match s with
        | none => RC β Z w (first (i + k) 0) u
        | some n => ∃ xs : Array Value, u = Value.agg xs ∧ xs.size = n ∧ ∀ j, j < n → ∃ y, xs[j]? = some y ∧ RC β Z w (first (i + k) j) y)) → RL β Z w (firstsOf sh first i) fs
  | [], [], i, _, _ => trivial
  | [], _ :: _, _, h, _ => by simp at h
  | _ :: _, [], _, h, _ => by simp at h
  | s :: sh, f :: fs, i, hl, h => by
    have tail : RL β Z w (firstsOf sh first (i + 1)) fs := firsts_ok (by simpa using hl) (fun k s hk => by
      obtain ⟨u, hu, hr⟩ := h (k + 1) s (by simpa using hk)
      refine ⟨u, by simpa using hu, ?_⟩
      rw [show i + 1 + k = i + (k + 1) by omega]; exact hr)
    obtain ⟨u, hu, hr⟩ := h 0 s rfl
    simp only [List.getElem?_cons_zero, Option.some.injEq] at hu
    subst hu
    cases s with
    | none => exact ⟨hr, tail⟩
    | some n => exact ⟨hr, tail⟩

theorem caps_ok {cap : Nat → CV} : ∀ {nc i : Nat} {cs : List Value}, cs.length = nc → (∀ k, k < nc → ∃ u, cs[k]? = some u ∧ RC β Z w (cap (i + k)) u) → RL β Z w (capsOf cap nc i) cs
  | 0, _, [], _, _ => trivial
  | 0, _, _ :: _, h, _ => by simp at h
  | _ + 1, _, [], h, _ => by simp at h
  | nc + 1, i, c :: cs, hl, h => by
    obtain ⟨u, hu, hr⟩ := h 0 (by omega)
    simp only [List.getElem?_cons_zero, Option.some.injEq] at hu
    subst hu
    refine ⟨hr, caps_ok (by simpa using hl) (fun k hk => ?_)⟩
    obtain ⟨u, hu, hr⟩ := h (k + 1) (by omega)
    exact ⟨u, by simpa using hu, by rw [show i + 1 + k = i + (k + 1) by omega]; exact hr⟩

theorem fn_ok {g : FuncId} {sh : List (Option Nat)} {first : Nat → Nat → CV} {nc : Nat} {cap : Nat → CV} {v : Value} (hv : RC β Z w (.fn g sh first nc cap) v) :
    ∃ fs cs : Array Value, v = .func (.func g) fs cs ∧ RL β Z w (firstsOf sh first 0) fs.toList ∧ RL β Z w (capsOf cap nc 0) cs.toList := by
  obtain ⟨fs, cs, rfl, h1, h2, h3, h4⟩ := hv
  refine ⟨fs, cs, rfl, firsts_ok (by simpa using h1) (fun k s hk => ?_), caps_ok (by simpa using h2) (fun k hk => ?_)⟩
  · obtain ⟨u, hu, hr⟩ := h4 k s hk
    exact ⟨u, by simpa using hu, by rw [Nat.zero_add]; exact hr⟩
  · obtain ⟨u, hu, hr⟩ := h3 k hk
    exact ⟨u, by simpa using hu, by rw [Nat.zero_add]; exact hr⟩

theorem run_enter {f : FuncId} {args : Array Value} (hf : ∃ fn c, P.funcs[f]? = some fn ∧ (fn.name == "runtime.NumGoroutine") = false ∧ fn.body = some c) : (callFunc f args).run P w = .ok (.enter f args) w := by
  obtain ⟨fn, c, h1, h2, h3⟩ := hf
  have h2' : ¬ fn.name = "runtime.NumGoroutine" := fun e => by rw [e] at h2; simp at h2
  simp [callFunc, h1, h2', h3]

/-- The log of a plan. -/
def Plan.log : Plan → List Nat
  | .wr _ n _ => [n]
  | .mv _ n _ _ => [n]
  | .fz _ n _ => [n]
  | .wz _ n _ m => [n, m]
  | _ => []

theorem vcStep_eff {p : Plan} {st : St} {dst : Option Nat} {K : St → Prop} {hp' : Hp} {v : AV} (h : vcStep E inl yld dst p st K) (he : p.eff st.nx st.hp = some (hp', v)) :
    AllP p.conds ∧ K (st.next dst v hp' (st.nx + 4) (p.log ++ st.wl)) ∧ ∀ n, n < st.nx → n ∉ p.log ++ st.wl → hp' n = st.hp n := by
  cases p <;> simp only [Plan.eff, Option.some.injEq, Prod.mk.injEq, reduceCtorEq] at he <;> simp only [vcStep, conj_iff] at h <;> obtain ⟨rfl, rfl⟩ := he
  · exact ⟨h.1, h.2, fun _ _ _ => rfl⟩
  · exact ⟨h.1, h.2, fun n hn _ => by rw [upd_ne _ _ (by omega)]⟩
  · exact ⟨h.1, h.2, fun n hn hl => by rw [upd_ne _ _ (fun e => hl (by simp [Plan.log, e]))]⟩
  · exact ⟨h.1, h.2, fun n hn hl => by rw [upd_ne _ _ (by omega), upd_ne _ _ (fun e => hl (by simp [Plan.log, e]))]⟩
  · exact ⟨h.1, h.2, fun n hn hl => by rw [upd_ne _ _ (fun e => hl (by simp [Plan.log, e]))]⟩
  · exact ⟨h.1, h.2, fun n hn hl => by rw [upd_ne _ _ (fun e => hl (by simp [Plan.log, e])), upd_ne _ _ (fun e => hl (by simp [Plan.log, e]))]⟩

theorem noDefer {tm : Nat → AV} {o : Oper} {st : St} {dst : Option Nat} {K : St → Prop} (h : vcStep E inl yld dst (planOp E tm hp o) st K) : ∀ c, o.op ≠ .defer c := by
  intro c hc
  have : planOp E tm hp o = .bad := by unfold planOp; rw [hc]
  rw [this] at h
  exact h

theorem dropAll_get : ∀ {l : List Nat} {n : Nat}, n ∉ l → dropAll hp l n = hp n
  | [], n, _ => rfl
  | m :: l, n, h => by
    simp only [List.mem_cons, not_or] at h
    simp only [dropAll]
    rw [upd_ne _ _ h.1, dropAll_get h.2]

theorem dropAll_some : ∀ {l : List Nat} {n : Nat} {blk : Blk}, dropAll hp l n = some blk → n ∉ l ∧ hp n = some blk
  | [], n, blk, h => ⟨by simp, h⟩
  | m :: l, n, blk, h => by
    simp only [dropAll] at h
    by_cases e : n = m
    · subst e; rw [upd_same] at h; simp at h
    · rw [upd_ne _ _ e] at h
      obtain ⟨h1, h2⟩ := dropAll_some h
      exact ⟨by simp [e, h1], h2⟩

/-- A call of a function with a contract, whatever names are free but those that it takes. -/
theorem sig_core (hE : EnvOk P E) {f : FuncId} {s : Sig} (hsig : E.sig f = some s) {x : s.α} {args pargs : List TV} (hq : fitTVs pargs (s.arg x) ∧ s.pre x) {nx : Nat} {Fr : Nat → Prop} (hok : SatH E 0 Fr β Z hp w) (hFr : ∀ n, nx ≤ n → n < nx + 4 → Fr n) {hpS : Hp} (hsub : ∀ n blk, hpS n = some blk → hp n = some blk)
    (hpure : pureTVs hpS args = some pargs) (hle : (Nat.ble (ownCount (s.res x)) 4 && pureRVs (s.res x)) = true) {vs : List Value} (hr : RL β Z w args vs)
    {base : Hp} (hmode : (ownTVs args = [] ∧ base = hp) ∨ (flatRVs (s.res x) = true ∧ AllP (flatOwns (s.res x)) ∧ base = hp) ∨ base = dropAll hp (ownTVs args)) :
    CallsIn Fence.wide 0 P f vs.toArray w fun e w' => ∃ val β' Z', e = .returned val ∧ Left E 0 (fun n => Fr n ∧ ¬ (nx ≤ n ∧ n < nx + 4)) β Z hp w β' Z' (resHp base (s.res x) nx) w' ∧ RA β' Z' w' (resAV (resTVs (s.res x) nx)) val := by
  simp only [Bool.and_eq_true] at hle
  have hle4 := Nat.le_of_ble_eq_true hle.1
  let Z1 := Zargs β Z hp (ownTVs args)
  have hz1lt : ∀ b, Z1 b → b < w.heap.size := fun b hb => Zargs.lt hok b hb
  have hz1 : ∀ b, Z b → Z1 b := fun b hb => .inl hb
  have hz1o : ∀ b, Z1 b → Z b ∨ Own β hp b := fun b hb => hb.imp id (fun ⟨n, blk, ln, _, h1, h2⟩ => ⟨n, blk, ln, h1, h2⟩)
  have hsat0 : SatH E 0 (fun _ => True) (fun _ => .no) Z1 (fun _ => none) w :=
    ⟨fun n blk h => by simp at h, fun n blk b ln h => by simp at h, fun n m x y b l1 l2 h => by simp at h, hz1lt, fun _ _ => rfl, hok.gl.mono (own := fun _ => False) (Evo.zup hz1) (fun b hb => ⟨hok.zlt b hb, fun h => h⟩)⟩
  have hargs : RL (fun _ => .no) Z1 w pargs vs := pureTVs_ok hok hsub hr (fun n hn => hn) hpure
  refine CallsIn.mono (hE.sig f s x hsig hq.2 Z1 w vs hsat0 (fitTVs_ok hq.1 hargs)) fun e w' hpost => ?_
  obtain ⟨val, β1, Z1', rfl, c1, c2, c3, c4, c5⟩ := hpost
  have hZ1' : ∀ b, Z b → Z1' b := fun b hb => c3.zmono b (hz1 b hb)
  have key : ∀ (Z2 : Nat → Prop), (∀ n blk, base n = some blk → hp n = some blk) → (∀ b, Z b → Z2 b) → (∀ b, Z2 b → Z b ∨ Z1' b) → (∀ n blk b ln, base n = some blk → β n = .at b ln → ¬ Z2 b) → Carry (s.res x) Z1' Z2 →
      ∃ val' β' Z', Ending.returned val = .returned val' ∧ Left E 0 (fun n => Fr n ∧ ¬ (nx ≤ n ∧ n < nx + 4)) β Z hp w β' Z' (resHp base (s.res x) nx) w' ∧ RA β' Z' w' (resAV (resTVs (s.res x) nx)) val' := by
    intro Z2 k1 k2 k3 k4 k5
    obtain ⟨β2, r1, r2, r3, r4, r5, r6, _⟩ := back_ok hok hFr hle4 hz1 hz1lt hz1o c1 c2 c3 c4 c5 k1 k2 k3 k4 k5
    exact ⟨val, β2, Z2, rfl, ⟨r1, r3, r4, r5, r6⟩, r2⟩
  rcases hmode with ⟨h1, rfl⟩ | ⟨h1, h2, rfl⟩ | rfl
  · refine key Z1' (fun n blk h => h) hZ1' (fun b hb => .inr hb) (fun n blk b ln hn hb hz => ?_) (.pure (fun _ h => h) hle.2)
    have ho := hok.own n blk b ln hn hb
    rcases c5 b hz with h3 | h3
    · rcases h3 with h3 | ⟨m, _, _, hm, _⟩
      · exact ho.2.1 h3
      · rw [h1] at hm; simp at hm
    · omega
  · exact key Z (fun n blk h => h) (fun _ h => h) (fun b hb => .inl hb) (fun n blk b ln hn hb hz => (hok.own n blk b ln hn hb).2.1 hz) (.flat h1 h2)
  · refine key Z1' (fun n blk h => (dropAll_some h).2) hZ1' (fun b hb => .inr hb) (fun n blk b ln hn hb hz => ?_) (.pure (fun _ h => h) hle.2)
    obtain ⟨hn1, hn2⟩ := dropAll_some hn
    have ho := hok.own n blk b ln hn2 hb
    rcases c5 b hz with h3 | h3
    · rcases h3 with h3 | ⟨m, blk', ln', hm, h4, h5⟩
      · exact ho.2.1 h3
      · have := hok.inj n m blk blk' b ln ln' hn2 h4 hb h5
        subst this; exact hn1 hm
    · omega

/-- A call of a function with a contract. -/
theorem sig_ok (hE : EnvOk P E) {f : FuncId} {s : Sig} (hsig : E.sig f = some s) {x : s.α} {args pargs : List TV} (hq : fitTVs pargs (s.arg x) ∧ s.pre x) {hs : HS} (hok : hs.ok E) {hpS : Hp} (hsub : ∀ n blk, hpS n = some blk → hs.hp n = some blk)
    (hpure : pureTVs hpS args = some pargs) (hle : (Nat.ble (ownCount (s.res x)) 4 && pureRVs (s.res x)) = true) {vs : List Value} (hr : RL hs.β hs.Z hs.w args vs)
    {base : Hp} {wl : List Nat} (hmode : (ownTVs args = [] ∧ base = hs.hp ∧ wl = hs.wl) ∨ (flatRVs (s.res x) = true ∧ AllP (flatOwns (s.res x)) ∧ base = hs.hp ∧ wl = hs.wl) ∨ (base = dropAll hs.hp (ownTVs args) ∧ wl = ownTVs args ++ hs.wl)) :
    CallsIn Fence.wide 0 P f vs.toArray hs.w fun e w' => ∃ val y, e = .returned val ∧ y.hp = resHp base (s.res x) hs.nx ∧ y.nx = hs.nx + 4 ∧ y.wl = wl ∧ y.w = w' ∧ y.ok E ∧ RA y.β y.Z w' (resAV (resTVs (s.res x) hs.nx)) val ∧ Turn hs y := by
  have hw : (∀ n, n ∈ hs.wl → n ∈ wl) ∧ (∀ n, n ∉ wl → base n = hs.hp n) := by
    rcases hmode with ⟨_, rfl, rfl⟩ | ⟨_, _, rfl, rfl⟩ | ⟨rfl, rfl⟩
    · exact ⟨fun _ h => h, fun _ _ => rfl⟩
    · exact ⟨fun _ h => h, fun _ _ => rfl⟩
    · exact ⟨fun n hn => by simp [hn], fun n hn => dropAll_get (fun h => hn (by simp [h]))⟩
  refine CallsIn.mono (sig_core hE hsig hq hok (nx := hs.nx) (fun n h _ => h) hsub hpure hle hr (base := base) (by
    rcases hmode with ⟨h1, h2, _⟩ | ⟨h1, h2, h3, _⟩ | ⟨h1, _⟩
    · exact .inl ⟨h1, h2⟩
    · exact .inr (.inl ⟨h1, h2, h3⟩)
    · exact .inr (.inr h1))) fun e w' hpost => ?_
  obtain ⟨val, β', Z', rfl, hl, hv⟩ := hpost
  refine ⟨val, ⟨β', Z', resHp base (s.res x) hs.nx, hs.nx + 4, wl, w'⟩, rfl, rfl, rfl, rfl, rfl, hl.sat.weaken (fun n (hn : hs.nx + 4 ≤ n) => ⟨by omega, by omega⟩), hv, ⟨hl.ev, hl.ext, hl.own, hl.zown, Nat.le_add_right _ _, hw.1, fun n hn hnw => (resHp_get (.inl hn)).trans (hw.2 n hnw)⟩⟩

theorem step_sound (hE : EnvOk P E) (hI : InlOk P E inl) (hIf : InlFn E inl) (hY : YldOk P E yld) {o : Oper} {st : St} {K : St → Prop} {a : Act} {ro : Option Nat} {Q' : Exit → Act → World → Prop} (hh : st.has o.dst = true)
    (h : vcStep E inl yld o.dst (planOp E st.tm st.hp o) st K) (hs : Sat E st β Z a w) : o.wpIn (Fn ro) 0 P a w (OpPost E (HS.of st β Z w) st.sz o.dst a K) Q' := by
  refine ⟨fun _ _ => trivial, ?_⟩
  rw [Oper.semAt_eq _ _ _ (noDefer h)]
  by_cases hnc : noCall (planOp E st.tm st.hp o)
  · cases he : (planOp E st.tm st.hp o).eff st.nx st.hp with
    | none =>
      cases hp0 : planOp E st.tm st.hp o <;> rw [hp0] at he hnc h <;> first | (simp [Plan.eff] at he; done) | exact hnc.elim | exact h.elim
    | some r =>
      obtain ⟨hp', v⟩ := r
      obtain ⟨h1, h2, h3⟩ := vcStep_eff h he
      obtain ⟨nx, val, w', β', Z', hrun, hnx, hl, hv⟩ := op_ok hE.tab hE.maps hs.heap (Nat.zero_le _) (nm := st.nx) (Nat.le_refl _) (fun n blk h => h) hs.tm h1 he
      have hy : (⟨β', Z', hp', st.nx + 4, (planOp E st.tm st.hp o).log ++ st.wl, w'⟩ : HS).ok E := hl.sat.weaken (fun n (hn : st.nx + 4 ≤ n) => ⟨by omega, by omega⟩)
      have hT : Turn (HS.of st β Z w) ⟨β', Z', hp', st.nx + 4, (planOp E st.tm st.hp o).log ++ st.wl, w'⟩ :=
        ⟨hl.ev, hl.ext, hl.own, hl.zown, Nat.le_add_right _ _, fun n hn => by simp [HS.of] at hn; simp [hn], h3⟩
      rw [hrun]
      rcases hnx with rfl | ⟨rfl, rfl⟩
      · exact OpPost.of hs hh hy hT hv h2
      · exact OpPost.of hs hh hy hT hv h2
  · obtain ⟨c, fo, l, hop, hcal, hargs, hcase⟩ := plan_call hnc
    have hl := args_ok hs.heap.gl hs.tm hargs
    have hfo := eval_ok hs.heap.gl hs.tm fo
    have hex : execOp a.eval o = (do let d ← resolve a.eval c o.type; invoke d.target d.args) := by simp [execOp, hop]
    rw [hex]
    rcases hcase with ⟨g, sh, first, nc, cap, hev, hplan⟩ | ⟨n, hev, hplan⟩
    · rw [hplan] at h
      rw [hev] at hfo
      obtain ⟨fs, cs, hv, q1, q2⟩ := fn_ok hfo
      have hrl : RL β Z w (firstsOf sh first 0 ++ l ++ capsOf cap nc 0) (fs.toList ++ c.args.toList.map a.eval ++ cs.toList) := (q1.append hl).append q2
      have hruns : (E.fn g).isSome = true ∨ (E.sig g).isSome = true → (do let d ← resolve a.eval c o.type; invoke d.target d.args : Sem Next).run P w = .ok (.enter g (fs.toList ++ c.args.toList.map a.eval ++ cs.toList).toArray) w := fun hg => by
        have := run_enter (w := w) (args := (fs ++ c.args.map a.eval) ++ cs) (hE.runs g hg)
        simp only [resolve, hcal, hv, Deferred.ofValue, Sem.run_bind, Sem.run_pure, Result.andThen_ok, invoke]
        rw [this]
        congr 2
        apply Array.ext'
        simp
      simp only [vcStep] at h
      split at h
      · rename_i s hsig
        rw [hruns (.inr (by rw [hsig]; rfl))]
        refine ⟨fun hd => by simp [Fn, Fence.wide] at hd, ?_⟩
        split at h
        · rename_i pargs hpure
          obtain ⟨x, hq1, hq2, h⟩ := h
          have hq := And.intro hq1 hq2
          split at h
          · rename_i hle
            have fin : ∀ {base : Hp} {wl : List Nat}, ((ownTVs (firstsOf sh first 0 ++ l ++ capsOf cap nc 0) = [] ∧ base = st.hp ∧ wl = st.wl) ∨ (flatRVs (s.res x) = true ∧ AllP (flatOwns (s.res x)) ∧ base = st.hp ∧ wl = st.wl) ∨ (base = dropAll st.hp (ownTVs (firstsOf sh first 0 ++ l ++ capsOf cap nc 0)) ∧ wl = ownTVs (firstsOf sh first 0 ++ l ++ capsOf cap nc 0) ++ st.wl)) →
                K (st.next o.dst (resAV (resTVs (s.res x) st.nx)) (resHp base (s.res x) st.nx) (st.nx + 4) wl) → _ := fun {base wl} hmode hk =>
              CallsIn.mono (sig_ok hE hsig hq (hs := HS.of st β Z w) hs.heap (fun n blk h => h) hpure hle hrl hmode) (R' := fun
                | .returned v, w' => OpPost E (HS.of st β Z w) st.sz o.dst a K (a.put o.dst v) w'
                | .panicked chain, w' => Q' (.panic chain) a w'
                | .outgrown, _ => LetsOut Q') fun e w' ⟨val, y, he, y1, y2, y3, y4, y5, y6, y7⟩ => by
                  subst he; subst y4
                  exact OpPost.of hs hh y5 y7 y6 (by rw [y1, y2, y3]; exact hk)
            split at h
            · rename_i hemp
              exact fin (.inl ⟨by simpa [List.isEmpty_iff] using hemp, rfl, rfl⟩) h
            · split at h
              · rename_i hfl
                rw [conj_iff] at h
                exact fin (.inr (.inl ⟨hfl, h.1, rfl, rfl⟩)) h.2
              · exact fin (.inr (.inr ⟨rfl, rfl⟩)) h
          · exact h.elim
        · exact h.elim
      · rename_i hsig
        rw [hruns (.inl (hIf _ _ _ _ _ _ h))]
        refine ⟨fun hd => by simp [Fn, Fence.wide] at hd, ?_⟩
        refine CallsIn.mono (hI g _ (HS.of st β Z w) _ h hs.heap _ hrl) fun e w' ⟨val, v, y, he, hk, yw, yok, yv, yt⟩ => ?_
        subst he; subst yw
        have yok4 : (⟨y.β, y.Z, y.hp, y.nx + 4, y.wl, y.w⟩ : HS).ok E := yok.weaken (fun n (hn : y.nx + 4 ≤ n) => by show y.nx ≤ n; omega)
        exact OpPost.of (y := ⟨y.β, y.Z, y.hp, y.nx + 4, y.wl, y.w⟩) hs hh yok4 ⟨yt.ev, yt.ext, yt.own, yt.zown, Nat.le_trans yt.nx (Nat.le_add_right _ _), yt.wl, yt.frame⟩ yv hk
    · rw [hplan] at h
      rw [hev] at hfo
      obtain ⟨b, ln, hb, hv⟩ := hfo
      simp only [vcStep] at h
      obtain ⟨b', ln', r, hb', hloop, hsz, hround⟩ := hY n _ (HS.of st β Z w) _ h hs.heap _ hl
      have : b' = b := by
        have e : Loc.at b' ln' = Loc.at b ln := hb'.symm.trans hb
        injection e
      subst this
      have hrun : (do let d ← resolve a.eval c o.type; invoke d.target d.args : Sem Next).run P w = .ok (.round b' r.fn ((r.params.zip (c.args.toList.map a.eval).toArray).foldl (fun tmps (t, a) => tmps.setIfInBounds t a) r.tmps) r.assign r.body) w := by
        simp only [resolve, hcal, hv, Deferred.ofValue, Sem.run_bind, Sem.run_pure, Result.andThen_ok, invoke]
        have e : (#[] ++ c.args.map a.eval) = (c.args.toList.map a.eval).toArray := by apply Array.ext'; simp
        have hloop' : w.heap[b']? = some (.loop r) := hloop
        simp only [e, Instr.yield, Sem.run_bind, Instr.getLoop, getObj, Sem.run, hloop', Result.andThen_ok, hsz, ne_eq, not_true_eq_false, if_false]
        simp [Result.andThen, Sem.run]
      rw [hrun]
      refine ⟨fun hd => by simp [Fn, Fence.wide] at hd, ?_⟩
      refine RoundIn.mono hround fun e w' ⟨val, v, y, he, hk, yw, yok, yv, yt⟩ => ?_
      subst he; subst yw
      have yok4 : (⟨y.β, y.Z, y.hp, y.nx + 4, y.wl, y.w⟩ : HS).ok E := yok.weaken (fun n (hn : y.nx + 4 ≤ n) => by show y.nx ≤ n; omega)
      exact OpPost.of (y := ⟨y.β, y.Z, y.hp, y.nx + 4, y.wl, y.w⟩) hs hh yok4 ⟨yt.ev, yt.ext, yt.own, yt.zown, Nat.le_trans yt.nx (Nat.le_add_right _ _), yt.wl, yt.frame⟩ yv hk
end
end Go.Sx
