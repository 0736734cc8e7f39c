/- The framework Sx, part 9: the conditions are sound. -/
import Derived.Test.YthcplmlkgaiggaaSxCode
import Derived.Test.YthcplmlkgaiggaaSxKept
set_option linter.unusedSimpArgs false
set_option linter.unusedVariables false
namespace Go.Sx
section
variable {P : Program} {E : Env} {β β' : Nat → Loc} {Z Z' : Nat → Prop} {hp : Hp} {w w' : World}

theorem fn_wide : Fn none = Fence.wide := rfl
theorem fn_round (b : Nat) : Fence.wide.inRound b = Fn (some b) := rfl

theorem inl_fn {rec : FuncId → Code → St → (Exit → St → Prop) → Prop} : InlFn E (inlOf E rec) := by
  intro f args hp nx wl K h
  unfold inlOf at h
  split at h
  · exact h.1
  · split at h
    · exact h.1
    · split at h
      · exact h.1
      · unfold inlBody at h
        split at h
        · rename_i fn hfn; rw [hfn]; rfl
        · exact h.elim

theorem RL.lookup {l : List TV} {vs : List Value} (h : RL β Z w l vs) (k t : Nat) : RA β Z w (initTm l t) ((vs.toArray ++ Array.replicate k undef).getD t undef) := by
  obtain ⟨h1, h2⟩ := h.get
  unfold initTm
  split
  · rename_i v hv
    obtain ⟨u, hu, hr⟩ := h2 t v hv
    have hlt : t < vs.length := (List.getElem?_eq_some_iff.1 hu).1
    have : (vs.toArray ++ Array.replicate k undef).getD t undef = u := by
      rw [Array.getD_eq_getD_getElem?, Array.getElem?_append_left (by simpa using hlt)]
      simp [hu]
    rw [this]; exact hr
  · trivial

theorem marks_nil (B0 : Nat) (x : HS) (h : B0 ≤ x.w.heap.size) : Marks B0 x [] := ⟨h, [], rfl, List.nodup_nil, fun r hr => by simp at hr⟩

theorem inlBody_ok (hE : EnvOk P E) {rec : FuncId → Code → St → (Exit → St → Prop) → Prop} (hrec : ∀ fid c, CodeOk P E c (rec fid c)) : InlOk P E (inlBody E rec) := by
  intro f args x K h hok vs hr
  unfold inlBody at h
  split at h
  · rename_i fn hfn
    split at h
    · rename_i c hc
      split at h
      · exact h.elim
      · rename_i hble
        have hf := hE.fn f fn hfn
        have hlen := Nat.le_of_ble_eq_true hble
        refine callsIn_of_wp_marks hf hc trivial ?_
        have hvl : vs.length = args.length := hr.get.1
        have hs : Sat E { tm := initTm args, sz := fn.ntmps, hp := x.hp, nx := x.nx, wl := x.wl } x.β x.Z { tmps := vs.toArray ++ Array.replicate (fn.ntmps - vs.toArray.size) undef, defers := [] } x.w :=
          ⟨hok, fun t => hr.lookup _ t, by simp; omega⟩
        have hw := hrec f c _ _ h none x.w.heap.size x.β x.Z _ x.w hs (marks_nil _ _ (Nat.le_refl _)) (fun l hl => by simp at hl)
        have fin : ∀ (st' : St) (β' : Nat → Loc) (Z' : Nat → Prop) (a' : Act) (w' : World), retVals E st' fn.results.toList (fun l => K (resAV l) st'.hp st'.nx st'.wl) → Sat E st' β' Z' a' w' → Turn x (HS.of st' β' Z' w') → Marks x.w.heap.size (HS.of st' β' Z' w') a'.defers →
            LeavesInM Fence.wide 0 P fn a'.tmps (CallPost E x K) a'.defers .returning w' := by
          intro st' β' Z' a' w' hq hs' ht hm
          obtain ⟨_, l, hdl, hnd, hl⟩ := hm
          rw [hdl]
          refine leaves_ok l w' hnd (fun r hr => (hl r hr).2.1) ?_
          have hsh := hs'.heap.shut (l := l) (fun r hr => (hl r hr).2)
          have ev := evo_shut (own := Own β' st'.hp) (Z := Z') (fun r hr => (hl r hr).2.1)
          have calm : Calm (fun b => Own β' st'.hp b ∨ b ∈ l) Z' w' := fun b hb => ⟨hs'.heap.zlt b hb, fun ho => ho.elim (hs'.heap.calm b hb).2 (fun hm => (hl b hm).2.2.2 hb)⟩
          have hsS : Sat E st' β' Z' a' (shut w' l) := ⟨hsh, fun t => RA.mono ev calm (Ext.refl _) (hs'.tm t), hs'.sz⟩
          obtain ⟨tvs, us, k1, k2, k3⟩ := retVals_ok hE.tab hsS hq
          obtain ⟨v, k4, k5⟩ := results_ok k2 k3
          refine ⟨v, k4, v, resAV tvs, ⟨β', Z', st'.hp, st'.nx, st'.wl, shut w' l⟩, rfl, k1, rfl, hsh, k5, ⟨ht.ev.trans ev (fun b hb => ?_), ht.ext, ht.own, ht.zown, ht.nx, ht.wl, ht.frame⟩⟩
          rcases hb with hb | hb
          · exact ht.own b hb
          · exact .inr (hl b hb).1
        refine wpIn_mono hw fun e a' w' hpost => ?_
        obtain ⟨st', β', Z', hq, hs', ht, _, _, hm⟩ := hpost
        cases e with
        | normal => exact fin st' β' Z' a' w' hq hs' ht hm
        | ret => exact fin st' β' Z' a' w' hq hs' ht hm
        | exit => exact hq.elim
        | goto => exact hq.elim
        | panic => exact hq.elim
        | outgrown => exact hq.elim
    · exact h.elim
  · exact h.elim

/-! ### Rounds -/

theorem inl_ok (hE : EnvOk P E) {rec : FuncId → Code → St → (Exit → St → Prop) → Prop} (hrec : ∀ fid c, CodeOk P E c (rec fid c)) : InlOk P E (inlOf E rec) := by
  intro f args x K h hok vs hr
  unfold inlOf at h
  split at h
  · rename_i R hR
    exact rec_ok (fun g hg => hE.again f R g hR hg) h.2 hok hr
  · split at h
    · rename_i R hR
      exact kept_ok (fun g hg => hE.kept f R g hR hg) h.2 hok hr
    · split at h
      · rename_i R hR
        exact even_ok (fun g hg => hE.even f R g hR hg) h.2 hok hr
      · exact inlBody_ok hE hrec f args x K h hok vs hr

theorem setPs_ok {sz : Nat} : ∀ {ps : List Nat} {args : List TV} {vs : List Value} {tm : Nat → AV} {tmps : Array Value}, psFit sz ps args = true → RL β Z w args vs → tmps.size = sz → (∀ t, RA β Z w (tm t) (tmps.getD t undef)) →
    ((ps.zip vs).foldl (fun (tmps : Array Value) (p : Nat × Value) => tmps.setIfInBounds p.1 p.2) tmps).size = sz ∧ (∀ t, RA β Z w (setPs ps args tm t) (((ps.zip vs).foldl (fun (tmps : Array Value) (p : Nat × Value) => tmps.setIfInBounds p.1 p.2) tmps).getD t undef)) ∧ vs.length = ps.length
  | [], [], [], tm, tmps, _, _, hsz, ht => ⟨hsz, ht, rfl⟩
  | [], [], _ :: _, _, _, _, h, _, _ => h.elim
  | [], _ :: _, _, _, _, h, _, _, _ => by simp [psFit] at h
  | _ :: _, [], _, _, _, h, _, _, _ => by simp [psFit] at h
  | _ :: _, x :: _, [], _, _, _, h, _, _ => by cases x <;> exact h.elim
  | p :: ps, x :: args, v :: vs, tm, tmps, hf, hr, hsz, ht => by
    simp only [psFit, Bool.and_eq_true] at hf
    have hp : p < sz := Nat.le_of_ble_eq_true hf.1
    have := setPs_ok (ps := ps) (args := args) (vs := vs) (tm := upd tm p (.t x)) (tmps := tmps.setIfInBounds p v) hf.2 hr.2 (by simpa using hsz) (fun t => by
      by_cases e : t = p
      · subst e
        rw [upd_same]
        have : (tmps.setIfInBounds t v).getD t undef = v := by simp [Array.getD, hsz, hp]
        rw [this]; exact hr.1
      · rw [upd_ne _ _ e]
        have : (tmps.setIfInBounds p v).getD t undef = tmps.getD t undef := by simp [Array.getD_eq_getD_getElem?, Array.getElem?_setIfInBounds_ne (Ne.symm e)]
        rw [this]; exact ht t)
    obtain ⟨h1, h2, h3⟩ := this
    exact ⟨h1, h2, by simp [h3]⟩

theorem zip_fold {ps : Array Nat} {vs : List Value} {tmps : Array Value} : (ps.zip vs.toArray).foldl (fun tmps (t, a) => tmps.setIfInBounds t a) tmps = (ps.toList.zip vs).foldl (fun (tmps : Array Value) (p : Nat × Value) => tmps.setIfInBounds p.1 p.2) tmps := by
  rw [← Array.foldl_toList, Array.toList_zip]

/-- A loop's record, from what the abstract block says. -/
theorem lp_mk {b ln : Nat} {fid : FuncId} {sz : Nat} {tm : Nat → AV} {ps : List Nat} {asg body : Code} {busy : Bool} {pend : Option Exit} {r : Loop} (h0 : w.heap[b]? = some (.loop r)) (h1 : r.tmps.size = sz) (h2 : ∀ t, RA β Z w (tm t) (r.tmps.getD t undef))
    (h3 : r.params.toList = ps) (h4 : r.assign = asg) (h5 : r.body = body) (h6 : r.state = (if busy then LoopState.busy else if pend.isNone then .ready else .done)) (h7 : r.pending = pend.bind codeExit) : RB β Z w (.at b ln) (.lp fid sz tm ps asg body busy pend) :=
  ⟨r, h0, h1, h2, h3, h4, h5, h6, h7⟩

theorem yld_ok {rec : FuncId → Code → St → (Exit → St → Prop) → Prop} (hrec : ∀ fid c, CodeOk P E c (rec fid c)) : YldOk P E (yldOf rec) := by
  intro n args x K h hok vs hr
  unfold yldOf at h
  split at h
  · rename_i fid sz tm ps asg body hn
    split at h
    · rename_i hfit
      have hrb := hok.rb n _ hn
      cases hβ : x.β n with
      | no => rw [hβ] at hrb; exact hrb.elim
      | virt => rw [hβ] at hrb; exact hrb.elim
      | «at» b ln =>
        rw [hβ] at hrb
        obtain ⟨r, r1, r2, r3, rfl, rfl, rfl, r7, r8⟩ := hrb
        obtain ⟨s1, s2, s3⟩ := setPs_ok hfit hr r2 r3
        refine ⟨b, ln, r, rfl, r1, by simpa using s3, ?_⟩
        rw [zip_fold]
        refine roundIn_of_wpIn (F := Fence.wide) trivial ?_
        have hs0 : Sat E { tm := setPs r.params.toList args tm, sz := sz, hp := x.hp, nx := x.nx, wl := x.wl } x.β x.Z { tmps := (r.params.toList.zip vs).foldl (fun (tmps : Array Value) (p : Nat × Value) => tmps.setIfInBounds p.1 p.2) r.tmps, defers := [] } x.w := ⟨hok, s2, s1⟩
        have hw1 := hrec fid r.assign _ _ h (some b) 0 x.β x.Z _ x.w hs0 (marks_nil _ _ (Nat.zero_le _)) (fun l hl => by injection hl with hl; subst hl; exact ⟨r, r1⟩)
        refine wpIn_mono hw1 fun e a1 w1 hpost => ?_
        obtain ⟨st1, β1, Z1, hq, hs1, ht1, _, _, hm1⟩ := hpost
        cases e with
        | exit => exact hq.elim
        | goto => exact hq.elim
        | ret => exact hq.elim
        | panic => exact hq.elim
        | outgrown => exact hq.elim
        | normal =>
          simp only at hq
          split at hq
          · rename_i hn1
            have hβ1 : β1 n = .at b ln := ht1.ext.at hβ
            have hrb1 := hs1.heap.rb n _ hn1
            rw [hβ1] at hrb1
            obtain ⟨q, q1, _, _, _, _, _, q7, _⟩ := hrb1
            obtain ⟨q', hq', same⟩ := ht1.ev.loops b r r1
            have hq'' : w1.heap[b]? = some (.loop q') := hq'
            rw [q1] at hq''; injection hq'' with e1; injection e1 with e1; subst e1
            have lt1 : b < w1.heap.size := (Array.getElem?_eq_some_iff.1 q1).1
            have own1 : Own β1 st1.hp b := ⟨n, _, ln, hn1, hβ1⟩
            have tmR : ∀ {y : HS}, Turn x y → ∀ t, RA y.β y.Z y.w (tm t) (r.tmps.getD t undef) := fun {y} ht t => RA.mono ht.ev hok.calm ht.ext (r3 t)
            refine ⟨_, run_beginRound q1 (by simpa using q7), ?_⟩
            obtain ⟨c1, c2, c3, c4, c5, c6⟩ := same
            have evA : Evo (Own β1 st1.hp) Z1 w1 Z1 (w1.putObj b (.loop { q with state := .busy })) := evo_putLoop own1 q1 ⟨rfl, rfl, rfl, rfl, rfl, rfl⟩
            have leftA := hs1.heap.setLoop hn1 hβ1 q1 (r' := { q with state := .busy }) ⟨rfl, rfl, rfl, rfl, rfl, rfl⟩ (ob := some (.lp fid sz tm r.params.toList r.assign r.body true none)) (fun blk hblk => by
              injection hblk with hblk; subst hblk
              refine lp_mk (World.putObj_heap_same lt1) (by simp [c1, r2]) (fun t => ?_) (by simp [c3]) (by simp [c4]) (by simp [c5]) (by simp) (by simpa using ‹q.pending = _›)
              have := RA.mono evA hs1.heap.calm (Ext.refl _) (tmR ht1 t)
              rw [← c1] at this; exact this)
            have hs2 : Sat E { tm := st1.tm, sz := st1.sz, hp := putBusy st1.hp n fid sz tm r.params.toList r.assign r.body true none, nx := st1.nx, wl := st1.wl } β1 Z1 a1 (w1.putObj b (.loop { q with state := .busy })) :=
              ⟨leftA.sat, fun t => RA.mono evA hs1.heap.calm (Ext.refl _) (hs1.tm t), hs1.sz⟩
            have TA : Turn ⟨β1, Z1, st1.hp, st1.nx, st1.wl, w1⟩ ⟨β1, Z1, putBusy st1.hp n fid sz tm r.params.toList r.assign r.body true none, st1.nx, [n] ++ st1.wl, w1.putObj b (.loop { q with state := .busy })⟩ :=
              Turn.of_left leftA (Nat.le_refl _) (fun m hm => by simp [hm]) (fun m _ hm => upd_ne _ _ (fun e => hm (by simp [e])))
            have hmA := hm1.turn TA
            have hw2 := hrec fid r.body _ _ hq (some b) 0 β1 Z1 a1 _ hs2 hmA (fun l hl => by injection hl with hl; subst hl; exact ⟨_, World.putObj_heap_same lt1⟩)
            refine wpIn_mono hw2 fun e a2 w3 hpost => ?_
            obtain ⟨st2, β2, Z2, hq2, hs3, ht2, _, _, _⟩ := hpost
            have TB := ht2.relog (l := [n])
            split at hq2
            · rename_i hn2
              have hβ2 : β2 n = .at b ln := ht2.ext.at hβ1
              have hrb2 := hs3.heap.rb n _ hn2
              rw [hβ2] at hrb2
              obtain ⟨p, p1, _⟩ := hrb2
              obtain ⟨p', hp', same2⟩ := ht2.ev.loops b _ (World.putObj_heap_same lt1)
              have hp'' : w3.heap[b]? = some (.loop p') := hp'
              rw [p1] at hp''; injection hp'' with e1; injection e1 with e1; subst e1
              obtain ⟨d1, d2, d3, d4, d5, d6⟩ := same2
              have lt3 : b < w3.heap.size := (Array.getElem?_eq_some_iff.1 p1).1
              have own3 : Own β2 st2.hp b := ⟨n, _, ln, hn2, hβ2⟩
              have T2 := ht1.trans (TA.trans TB)
              have done : ∀ (jump : Option Code) (pend : Option Exit), jump = pend.bind codeExit → jump.isNone = pend.isNone → 
                  let p2 : Loop := { p with state := if jump.isNone then .ready else .done, pending := jump }
                  (⟨β2, Z2, putBusy st2.hp n fid sz tm r.params.toList r.assign r.body false pend, st2.nx, [n] ++ st2.wl, w3.putObj b (.loop p2)⟩ : HS).ok E ∧ Turn x ⟨β2, Z2, putBusy st2.hp n fid sz tm r.params.toList r.assign r.body false pend, st2.nx, [n] ++ st2.wl, w3.putObj b (.loop p2)⟩ := by
                intro jump pend hj hj2 p2
                have evB : Evo (Own β2 st2.hp) Z2 w3 Z2 (w3.putObj b (.loop p2)) := evo_putLoop own3 p1 ⟨rfl, rfl, rfl, rfl, rfl, rfl⟩
                have leftB := hs3.heap.setLoop hn2 hβ2 p1 (r' := p2) ⟨rfl, rfl, rfl, rfl, rfl, rfl⟩ (ob := some (.lp fid sz tm r.params.toList r.assign r.body false pend)) (fun blk hblk => by
                  injection hblk with hblk; subst hblk
                  refine lp_mk (World.putObj_heap_same lt3) (by simp [p2, d1, c1, r2]) (fun t => ?_) (by simp [p2, d3, c3]) (by simp [p2, d4, c4]) (by simp [p2, d5, c5]) (by simp [p2, hj2]) hj
                  have := RA.mono evB hs3.heap.calm (Ext.refl _) (tmR T2 t)
                  rw [show r.tmps = p2.tmps from (by simp [p2, d1, c1])] at this; exact this)
                refine ⟨leftB.sat, T2.trans (Turn.of_left leftB (Nat.le_refl _) (fun m hm => hm) (fun m _ hm => upd_ne _ _ (fun e => hm (by simp [e]))))⟩
              cases e with
              | normal =>
                obtain ⟨k1, k2⟩ := done none none rfl rfl
                refine ⟨_, _, run_endRound none p1, .bool true, .t (.c .tt), ⟨β2, Z2, putBusy st2.hp n fid sz tm r.params.toList r.assign r.body false none, st2.nx, st2.wl, _⟩, rfl, hq2, rfl, k1, rfl, ⟨k2.ev, k2.ext, k2.own, k2.zown, k2.nx, fun m hm => ht2.wl m (ht1.wl m hm), fun m hm hl => ?_⟩⟩
                by_cases e : m = n
                · subst e; exact (upd_same _ _ _).trans hn.symm
                · exact k2.frame m hm (by simp [e, hl])
              | ret =>
                obtain ⟨k1, k2⟩ := done (some .ret) (some .ret) rfl rfl
                exact ⟨_, _, run_endRound (some .ret) p1, .bool false, .t (.c .ff), ⟨β2, Z2, putBusy st2.hp n fid sz tm r.params.toList r.assign r.body false (some .ret), st2.nx, n :: st2.wl, _⟩, rfl, hq2, rfl, k1, rfl, k2⟩
              | exit id =>
                obtain ⟨k1, k2⟩ := done (some (.exit id)) (some (.exit id)) rfl rfl
                exact ⟨_, _, run_endRound (some (.exit id)) p1, .bool false, .t (.c .ff), ⟨β2, Z2, putBusy st2.hp n fid sz tm r.params.toList r.assign r.body false (some (.exit id)), st2.nx, n :: st2.wl, _⟩, rfl, hq2, rfl, k1, rfl, k2⟩
              | goto => exact hq2.elim
              | panic => exact hq2.elim
              | outgrown => exact hq2.elim
            · exact hq2.elim
          · exact hq.elim
    · exact h.elim
  · exact h.elim
end
end Go.Sx
