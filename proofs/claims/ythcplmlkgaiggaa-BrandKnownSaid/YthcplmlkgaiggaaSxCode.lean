/- The framework Sx, part 8b: loops over functions; rounds; functions that are entered. -/
import Derived.Test.YthcplmlkgaiggaaSxWalk
set_option linter.unusedSimpArgs false
set_option linter.unusedVariables false
namespace Go.Sx
section
variable {P : Program} {E : Env} {Fr : Nat → Prop} {B : Nat} {β β' : Nat → Loc} {Z Z' : Nat → Prop} {hp : Hp} {w w' : World} {inl : CallVC} {yld : YieldVC}

theorem SatH.alloc (h : SatH E B Fr β Z hp w) (o : Obj) : Left E B Fr β Z hp w β Z hp (w.alloc o) := by
  have ev := Evo.alloc (Own β hp) Z w o
  exact ⟨h.step ev (Ext.refl β) (fun n blk hn => .inl ⟨hn, fun b ln hb => ⟨heap_alloc_old w o b (h.own n blk b ln hn hb).1, (h.own n blk b ln hn hb).2.1⟩⟩) h.inj (fun b hb => by simp; exact Nat.lt_succ_of_lt (h.zlt b hb)) h.fresh,
    ev, Ext.refl β, fun b hb => .inl hb, fun b hb => .inl hb⟩

theorem evo_putLoop {own : Nat → Prop} {b : Nat} {r r' : Loop} (hown : own b) (hw : w.heap[b]? = some (.loop r)) (hr : SameLoop r r') : Evo own Z w Z (w.putObj b (.loop r')) := by
  have hlt : b < w.heap.size := (Array.getElem?_eq_some_iff.1 hw).1
  refine ⟨rfl, rfl, rfl, by simp, fun k hk hno => ?_, fun k cs e hk => ⟨cs, ?_, rfl⟩, fun k rk hk => ?_, fun _ h => h⟩
  · exact World.putObj_heap_other (fun e => hno (e ▸ hown))
  · rw [World.putObj_heap_other (fun e => by subst e; rw [hw] at hk; simp at hk)]; exact hk
  · by_cases e : k = b
    · subst e
      rw [hw] at hk; injection hk with hk; injection hk with hk; subst hk
      exact ⟨r', World.putObj_heap_same hlt, hr⟩
    · exact ⟨rk, by rw [World.putObj_heap_other e]; exact hk, rfl, rfl, rfl, rfl, rfl, rfl⟩

theorem SatH.setLoop (h : SatH E B Fr β Z hp w) {n : Nat} {old : Blk} (hn : hp n = some old) {b ln : Nat} (hb : β n = .at b ln) {r r' : Loop} (hw : w.heap[b]? = some (.loop r)) (hr : SameLoop r r') {ob : Option Blk}
    (hob : ∀ blk, ob = some blk → RB β Z (w.putObj b (.loop r')) (.at b ln) blk) : Left E B Fr β Z hp w β Z (upd hp n ob) (w.putObj b (.loop r')) := by
  have hlt : b < w.heap.size := (Array.getElem?_eq_some_iff.1 hw).1
  have hown : Own β hp b := ⟨n, old, ln, hn, hb⟩
  have ev : Evo (Own β hp) Z w Z (w.putObj b (.loop r')) := by
    refine ⟨rfl, rfl, rfl, by simp, fun k hk hno => ?_, fun k cs e hk => ⟨cs, ?_, rfl⟩, fun k rk hk => ?_, fun _ h => h⟩
    · exact World.putObj_heap_other (fun e => hno (e ▸ hown))
    · rw [World.putObj_heap_other (fun e => by subst e; rw [hw] at hk; simp at hk)]; exact hk
    · by_cases e : k = b
      · subst e
        rw [hw] at hk; injection hk with hk; injection hk with hk; subst hk
        exact ⟨r', World.putObj_heap_same hlt, hr⟩
      · exact ⟨rk, by rw [World.putObj_heap_other e]; exact hk, rfl, rfl, rfl, rfl, rfl, rfl⟩
  refine ⟨h.step ev (Ext.refl β) (fun m blk hm => ?_) (fun m1 m2 x y b' l1 l2 h1 h2 hb1 hb2 => ?_) (fun b' hb' => by simpa using h.zlt b' hb') h.fresh, ev, Ext.refl β, fun b' hb' => ?_, fun b hb => .inl hb⟩
  · by_cases hmn : m = n
    · subst hmn
      rw [upd_same] at hm
      refine .inr ⟨by rw [hb]; exact hob blk hm, fun b' ln' hb' => ?_⟩
      obtain ⟨g1, g2, g3⟩ := h.own m old b' ln' hn hb'
      exact ⟨by simpa using g1, g2, g3⟩
    · rw [upd_ne _ _ hmn] at hm
      refine .inl ⟨hm, fun b' ln' hb' => ⟨World.putObj_heap_other (fun e1 => hmn ?_), (h.own m blk b' ln' hm hb').2.1⟩⟩
      subst e1
      exact h.inj m n _ _ _ _ _ hm hn hb' hb
  · have some_of : ∀ m x, upd hp n ob m = some x → ∃ x', hp m = some x' := fun m x hm => by
      by_cases hmn : m = n
      · subst hmn; exact ⟨old, hn⟩
      · rw [upd_ne _ _ hmn] at hm; exact ⟨x, hm⟩
    obtain ⟨x', hx'⟩ := some_of m1 x h1
    obtain ⟨y', hy'⟩ := some_of m2 y h2
    exact h.inj m1 m2 x' y' b' l1 l2 hx' hy' hb1 hb2
  · obtain ⟨m, x, ln', h1, h2⟩ := hb'
    by_cases hmn : m = n
    · subst hmn; exact .inl ⟨m, old, ln', hn, h2⟩
    · rw [upd_ne _ _ hmn] at h1; exact .inl ⟨m, x, ln', h1, h2⟩

theorem Turn.of_left {Fr' : Nat → Prop} {hp' : Hp} {nx nx' : Nat} {wl wl' : List Nat} (h : Left E B Fr' β Z hp w β' Z' hp' w') (hn : nx ≤ nx') (hl : ∀ n, n ∈ wl → n ∈ wl') (hf : ∀ n, n < nx → n ∉ wl' → hp' n = hp n) :
    Turn ⟨β, Z, hp, nx, wl, w⟩ ⟨β', Z', hp', nx', wl', w'⟩ := ⟨h.ev, h.ext, h.own, h.zown, hn, hl, hf⟩

theorem Turn.relog {x y : HS} {l : List Nat} (h : Turn x y) : Turn { x with wl := l ++ x.wl } { y with wl := l ++ y.wl } :=
  ⟨h.ev, h.ext, h.own, h.zown, h.nx, fun n hn => by
    simp only [List.mem_append] at hn ⊢
    exact hn.imp id (h.wl n), fun n hn hw => h.frame n hn (fun hh => hw (by simp [hh]))⟩

/-! ### Marks taken -/

def shut : World → List Nat → World
  | w, [] => w
  | w, r :: l => shut (w.putObj r (.deferred none)) l

theorem shut_facts : ∀ (l : List Nat) (w : World), (shut w l).os = w.os ∧ (shut w l).tape = w.tape ∧ (shut w l).output = w.output ∧ (shut w l).heap.size = w.heap.size ∧ ∀ k, k ∉ l → (shut w l).heap[k]? = w.heap[k]?
  | [], w => ⟨rfl, rfl, rfl, rfl, fun _ _ => rfl⟩
  | r :: l, w => by
    obtain ⟨h1, h2, h3, h4, h5⟩ := shut_facts l (w.putObj r (.deferred none))
    refine ⟨h1, h2, h3, by rw [shut, h4]; simp, fun k hk => ?_⟩
    simp only [List.mem_cons, not_or] at hk
    rw [shut, h5 k hk.2, World.putObj_heap_other hk.1]

theorem evo_shut {own : Nat → Prop} {l : List Nat} (hd : ∀ r ∈ l, w.heap[r]? = some (.deferred (some []))) : Evo (fun b => own b ∨ b ∈ l) Z w Z (shut w l) := by
  obtain ⟨h1, h2, h3, h4, h5⟩ := shut_facts l w
  refine ⟨h1, h2, h3, by rw [h4]; exact Nat.le_refl _, fun b _ hno => h5 b (fun hm => hno (.inr hm)), fun b cs e hb => ⟨cs, ?_, rfl⟩, fun b r hb => ⟨r, ?_, rfl, rfl, rfl, rfl, rfl, rfl⟩, fun _ h => h⟩
  · rw [h5 b (fun hm => by rw [hd b hm] at hb; simp at hb)]; exact hb
  · rw [h5 b (fun hm => by rw [hd b hm] at hb; simp at hb)]; exact hb

theorem SatH.shut (h : SatH E B Fr β Z hp w) {l : List Nat} (hd : ∀ r ∈ l, w.heap[r]? = some (.deferred (some [])) ∧ ¬ Own β hp r ∧ ¬ Z r) : SatH E B Fr β Z hp (shut w l) := by
  have ev : Evo (fun b => Own β hp b ∨ b ∈ l) Z w Z (Go.Sx.shut w l) := evo_shut (fun r hr => (hd r hr).1)
  have calm : Calm (fun b => Own β hp b ∨ b ∈ l) Z w := fun b hb => ⟨h.zlt b hb, fun ho => ho.elim (h.calm b hb).2 (fun hm => (hd b hm).2.2 hb)⟩
  obtain ⟨_, _, _, h4, h5⟩ := shut_facts l w
  refine ⟨fun n blk hn => RB.mono ev calm (Ext.refl β) (fun b ln hb => h5 b (fun hm => (hd b hm).2.1 ⟨n, blk, ln, hn, hb⟩)) (h.rb n blk hn), fun n blk b ln hn hb => by rw [h4]; exact h.own n blk b ln hn hb, h.inj, fun b hb => by rw [h4]; exact h.zlt b hb, h.fresh, h.gl.mono ev calm⟩

theorem leaves_ok {F : Fence} {fn : Func} {tmps : Array Value} {R : Ending → World → Prop} : ∀ (l : List Nat) (w : World), l.Nodup → (∀ r ∈ l, w.heap[r]? = some (.deferred (some []))) →
    (∃ v, (results fn tmps).run P (shut w l) = .ok v (shut w l) ∧ R (.returned v) (shut w l)) → LeavesInM F 0 P fn tmps R (l.map markOf) .returning w
  | [], w, _, _, h => h
  | r :: l, w, hn, hd, h => by
    have hr := hd r (by simp)
    refine ⟨by simp, .inl ⟨r, _, rfl, run_takeDeferred hr, leaves_ok l _ (List.nodup_cons.1 hn).2 (fun r' hr' => ?_) h⟩⟩
    rw [World.putObj_heap_other (fun e => by subst e; exact (List.nodup_cons.1 hn).1 hr')]
    exact hd r' (by simp [hr'])

/-! ### Results -/

theorem retVals_ok (hT : TabOk P E) {st : St} {a : Act} (hs : Sat E st β Z a w) : ∀ {l : List ResultVar} {K : List TV → Prop}, retVals E st l K → ∃ (tvs : List TV) (vs : List Value), K tvs ∧ RL β Z w tvs vs ∧
    (l.mapM fun | .tmp t => pure (a.tmps.getD t undef) | .cell b t => do loadVar t (← asAddr (a.tmps.getD b undef)) : Sem (List Value)).run P w = .ok vs w
  | [], K, h => ⟨[], [], h, trivial, rfl⟩
  | .tmp t :: l, K, h => by
    simp only [retVals] at h
    split at h
    · rename_i v hv
      obtain ⟨tvs, vs, h1, h2, h3⟩ := retVals_ok hT hs h
      have := hs.tm t
      rw [hv] at this
      refine ⟨v :: tvs, a.tmps.getD t undef :: vs, h1, ⟨this, h2⟩, ?_⟩
      rw [List.mapM_cons]
      simp only [Sem.run_bind, Sem.run_pure, Result.andThen_ok]
      rw [h3]; rfl
    · exact h.elim
  | .cell t ty :: l, K, h => by
    simp only [retVals] at h
    split at h
    · rename_i ti hti
      split at h
      · rename_i c v hp1
        rw [conj_iff] at h
        obtain ⟨tvs, vs, h1, h2, h3⟩ := retVals_ok hT hs h.2
        obtain ⟨u, hu, hr⟩ := load_ok (P := P) (hT ty ti hti).1 (hT ty ti hti).2 hs.heap.rb (hs.tm t) hp1 h.1
        have hptr : ∃ b, a.tmps.getD t undef = .pointer (some b) := by
          cases hv : a.tmps.getD t undef with
          | pointer o =>
            cases o with
            | some b => exact ⟨b, rfl⟩
            | none => rw [hv] at hu; simp [Instr.loadAt, Instr.sureAddr, stuck] at hu
          | _ => rw [hv] at hu; simp [Instr.loadAt, Instr.sureAddr, stuck] at hu
        obtain ⟨b, hb⟩ := hptr
        refine ⟨v :: tvs, u :: vs, h1, ⟨hr, h2⟩, ?_⟩
        rw [List.mapM_cons]
        rw [hb] at hu
        simp only [Instr.loadAt, Instr.sureAddr, pure_bind] at hu
        have ha : ∀ w, (asAddr (a.tmps.getD t undef)).run P w = .ok b w := fun w => by rw [hb]; rfl
        simp only [Sem.run_bind, ha, hu, Result.andThen_ok, h3, Sem.run_pure]
      · exact h.elim
    · exact h.elim

theorem results_ok {fn : Func} {a : Act} {vs : List Value} {tvs : List TV} (hr : RL β Z w tvs vs)
    (h : (fn.results.toList.mapM fun | .tmp t => pure (a.tmps.getD t undef) | .cell b t => do loadVar t (← asAddr (a.tmps.getD b undef)) : Sem (List Value)).run P w = .ok vs w) :
    ∃ v, (results fn a.tmps).run P w = .ok v w ∧ RA β Z w (resAV tvs) v := by
  have e : (fn.results.mapM fun | .tmp t => pure (a.tmps.getD t undef) | .cell b t => do loadVar t (← asAddr (a.tmps.getD b undef)) : Sem (Array Value)).run P w = .ok vs.toArray w := by
    rw [← Array.toArray_toList (xs := fn.results), List.mapM_toArray]
    simp only [Sem.run_map, h]
    rfl
  have hres : results fn a.tmps = (do
      let vs ← (fn.results.mapM fun | .tmp t => pure (a.tmps.getD t undef) | .cell b t => do loadVar t (← asAddr (a.tmps.getD b undef)) : Sem (Array Value))
      pure (if h : vs.size = 1 then vs[0] else .tuple vs)) := rfl
  rw [hres]
  refine ⟨if h : vs.toArray.size = 1 then vs.toArray[0] else .tuple vs.toArray, by simp only [Sem.run_bind, e, Result.andThen_ok, Sem.run_pure], ?_⟩
  clear e hres h
  obtain ⟨h1, h2⟩ := hr.get
  match tvs, vs, h1, hr, h2 with
  | [], [], _, _, _ => exact ⟨#[], rfl, rfl, fun i x hx => by simp at hx⟩
  | [x], [v], _, hr, _ => exact hr.1
  | x :: y :: l, v :: u :: r, h1, _, h2 =>
    rw [dif_neg (by simp)]
    refine ⟨_, rfl, by simpa using h1, fun i x hx => ?_⟩
    obtain ⟨u', hu', hr'⟩ := h2 i x hx
    exact ⟨u', by simpa using hu', hr'⟩
end
end Go.Sx
