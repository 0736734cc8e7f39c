/- Texts for the law of the last part, part 6. -/
import Derived.Test.YtpigkgoooekcgaaTopEqualsP05
import Derived.TacticsIn
set_option linter.unusedSimpArgs false
set_option linter.unusedVariables false
namespace Go.Sx
section
variable {P : Program} {E : Env} {β0 β1 β2 β : Nat → Loc} {Z0 Z1 Z Z' : Nat → Prop} {hp : Hp} {w0 w1 w : World}
theorem allN_get {p : Nat → Prop} : ∀ {n : Nat}, allN n p → ∀ j, j < n → p j
 | 0, _, j, hj => absurd hj (Nat.not_lt_zero j)
 | n + 1, h, j, hj => by
   by_cases e : j = n
   · subst e; exact h.2
   · exact allN_get h.1 j (by omega)
theorem allM_get {p : Nat → Prop} {n : Nat} (h : allM n p) : ∀ j, j < n → p j := by
 unfold allM at h
 split at h
 · exact h
 · exact allN_get h
theorem fitP_ok : ∀ {x y : CV} {v : Value}, fitP x y → RP Z w x v → RP Z w y v := by
 intro x
 induction x with
 | vs s l g ih =>
   intro y v hf hx
   unfold fitP at hf
   split at hf
   case h_1 => exact RP.one hx
   case h_14 s1 l1 g1 s' l' g' e1 =>
     obtain ⟨rfl, rfl, rfl⟩ := (by injection e1 with a b c; exact ⟨a, b, c⟩ : s = s1 ∧ l = l1 ∧ g = g1)
     obtain ⟨hs, rfl, hcell⟩ := hf
     obtain rfl := Nat.eq_of_beq_eq_true (chk_iff.1 hs)
     obtain ⟨a, cap, rfl, h1, h2⟩ := hx
     refine ⟨a, cap, rfl, h1, fun hpos => ?_⟩
     obtain ⟨b, o, rfl, hz, hc⟩ := h2 hpos
     refine ⟨b, o, rfl, hz, fun i hi j hj => ?_⟩
     obtain ⟨u, hu, hr⟩ := hc i hi j hj
     exact ⟨u, hu, ih i j (allN_get (hcell i hi) j hj) hr⟩
   all_goals first
     | (rename_i e1; exact CV.noConfusion e1; done)
     | (rename_i e1 _; exact CV.noConfusion e1; done)
     | (subst hf; exact hx)
 | vx s l g ih =>
   intro y v hf hx
   unfold fitP at hf
   split at hf
   case h_1 => exact RP.one hx
   case h_15 s1 l1 g1 s' l' g' e1 =>
     obtain ⟨rfl, rfl, rfl⟩ := (by injection e1 with a b c; exact ⟨a, b, c⟩ : s = s1 ∧ l = l1 ∧ g = g1)
     obtain ⟨hs, rfl, hcell⟩ := hf
     obtain rfl := Nat.eq_of_beq_eq_true (chk_iff.1 hs)
     obtain ⟨a, rfl, h2⟩ := hx
     refine ⟨a, _, rfl, Nat.le_refl _, fun hpos => ?_⟩
     obtain ⟨b, o, rfl, hz, hc⟩ := h2 hpos
     refine ⟨b, o, rfl, hz, fun i hi j hj => ?_⟩
     obtain ⟨u, hu, hr⟩ := hc i hi j hj
     exact ⟨u, hu, ih i j (allN_get (hcell i hi) j hj) hr⟩
   all_goals first
     | (rename_i e1; exact CV.noConfusion e1; done)
     | (rename_i e1 _; exact CV.noConfusion e1; done)
     | (subst hf; exact hx)
 | ip n g ih =>
   intro y v hf hx
   cases y with
   | any => exact RP.one hx
   | ip n' g' =>
     obtain ⟨h1, h2⟩ : chk (Nat.beq n n') ∧ allN n fun j => fitP (g j) (g' j) := hf
     obtain rfl := Nat.eq_of_beq_eq_true (chk_iff.1 h1)
     obtain ⟨b, o, rfl, hz, hc⟩ := hx
     refine ⟨b, o, rfl, hz, fun j hj => ?_⟩
     obtain ⟨u, hu, hr⟩ := hc j hj
     exact ⟨u, hu, ih j (allN_get h2 j hj) hr⟩
   | fn f' sh' first' nc' cap' =>
     have e : CV.ip n g = CV.fn f' sh' first' nc' cap' := by cases sh' <;> exact hf
     cases e
   | _ => exact CV.noConfusion hf
 | fn f sh first nc cap ih1 ih2 =>
   intro y v hf hx
   cases y with
   | any => exact RP.one hx
   | fn f' sh' first' nc' cap' =>
     cases sh with
     | cons a l =>
       have e : CV.fn f (a :: l) first nc cap = CV.fn f' sh' first' nc' cap' := by cases sh' <;> exact hf
       rw [← e]; exact hx
     | nil =>
       cases nc with
       | zero =>
         have e : CV.fn f [] first 0 cap = CV.fn f' sh' first' nc' cap' := by cases sh' <;> exact hf
         rw [← e]; exact hx
       | succ nc =>
         cases sh' with
         | cons a l =>
           have e : CV.fn f [] first (nc + 1) cap = CV.fn f' (a :: l) first' nc' cap' := hf
           rw [← e]; exact hx
         | nil =>
           obtain ⟨h1, h2, h3⟩ : chk (Nat.beq f f') ∧ chk (Nat.beq (nc + 1) nc') ∧ allN (nc + 1) fun j => fitP (cap j) (cap' j) := hf
           obtain rfl := Nat.eq_of_beq_eq_true (chk_iff.1 h1)
           obtain rfl := Nat.eq_of_beq_eq_true (chk_iff.1 h2)
           obtain ⟨_, cs, rfl, q1, q2⟩ := hx
           refine ⟨rfl, cs, rfl, q1, fun i hi => ?_⟩
           obtain ⟨u, hu, hr⟩ := q2 i hi
           exact ⟨u, hu, ih2 i (allN_get h3 i hi) hr⟩
   | _ => exact CV.noConfusion hf
 | _ =>
   intro y v hf hx
   unfold fitP at hf
   split at hf <;> first
     | exact RP.one hx
     | (rename_i e1; exact CV.noConfusion e1; done)
     | (rename_i e1 _; exact CV.noConfusion e1; done)
     | exact hx
     | (subst hf; exact hx)
     | skip
   all_goals first
     | (rename_i e1; injection e1 with e1; subst e1; subst hf; exact hx)
     | (rename_i e1
        injection e1 with e1 e2
        subst e1; subst e2
        split at hf
        · rename_i hk
          rw [← kindNo_inj hk]
          subst hf; exact hx
        · exact hf.elim)
     | (subst hf
        obtain rfl : v = .slice none 0 0 := hx
        exact ⟨none, 0, rfl, Nat.le_refl _, fun h => absurd h (Nat.lt_irrefl 0)⟩)
structure Named (ρ : Nat → Src) (β1 β2 : Nat → Loc) : Prop where
 nm : ∀ m n, ρ m = .nm n → β2 m = β1 n
 virt : ∀ m, ρ m = .virt → β2 m = .virt
theorem isNm_ok {s : Src} {n : Nat} (h : isNm s n) : s = .nm n := by
 unfold isNm at h
 split at h
 · split at h
   · rename_i hb; rw [Nat.eq_of_beq_eq_true hb]
   · exact h.elim
 · exact h.elim
theorem isVirt_ok {s : Src} (h : isVirt s) : s = .virt := by
 unfold isVirt at h
 split at h
 · rfl
 · exact h.elim
theorem fitCV0_ok {ρ : Nat → Src} (hρ : Named ρ β1 β2) {x y : CV} {v : Value} (hf : fitCV0 ρ x y) (hx : RC β1 Z w x v) : RC β2 Z w y v := by
 unfold fitCV0 at hf
 split at hf
 · rename_i m sz len
   obtain ⟨h1, rfl⟩ := hf
   obtain rfl : v = .slice none 0 0 := hx
   show ROs w (β2 m) sz 0 _
   rw [hρ.virt m (isVirt_ok h1)]
   exact ⟨rfl, rfl⟩
 · obtain ⟨h1, rfl⟩ := hf
   obtain ⟨b, ln, hb, rfl⟩ := hx
   exact ⟨b, ln, by rw [hρ.nm _ _ (isNm_ok h1), hb], rfl⟩
 · rename_i n s l m s' l'
   obtain ⟨h1, h2, rfl⟩ := hf
   obtain rfl := Nat.eq_of_beq_eq_true (chk_iff.1 h2)
   have hx' : ROs w (β1 n) s l v := hx
   show ROs w (β2 m) s l v
   rw [hρ.nm _ _ (isNm_ok h1)]; exact hx'
 · obtain ⟨b, ln, hb, rfl⟩ := hx
   exact ⟨b, ln, by rw [hρ.nm _ _ (isNm_ok hf), hb], rfl⟩
 · exact RC.one hx
 · obtain ⟨h1, h2⟩ := hf
   exact RC.of_RP (fitP_ok h2 (RP.of_RC (chk_iff.1 h1) hx))
theorem fitCV_ok {ρ : Nat → Src} (hρ : Named ρ β1 β2) {x y : CV} {v : Value} (hf : fitCV ρ x y) (hx : RC β1 Z w x v) : RC β2 Z w y v := by
 unfold fitCV at hf
 split at hf
 · obtain ⟨h1, h2, h3⟩ := hf
   obtain rfl := Nat.eq_of_beq_eq_true (chk_iff.1 h1)
   obtain rfl := Nat.eq_of_beq_eq_true (chk_iff.1 h2)
   obtain ⟨fs, cs, rfl, k1, k2, k3, _⟩ := hx
   exact ⟨fs, cs, rfl, k1, k2, fun i hi => let ⟨u, hu, hr⟩ := k3 i hi; ⟨u, hu, fitCV0_ok hρ (allN_get h3 i hi) hr⟩, fun i s hs => by simp at hs⟩
 · exact fitCV0_ok hρ hf hx
theorem fitAV_ok {ρ : Nat → Src} (hρ : Named ρ β1 β2) {x y : AV} {v : Value} (hf : fitAV ρ x y) (hx : RA β1 Z w x v) : RA β2 Z w y v := by
 cases y with
 | any => trivial
 | tup l => cases x <;> exact hf.elim
 | t y =>
   cases x with
   | any => exact hf.elim
   | tup => exact hf.elim
   | t x =>
     cases x with
     | c x => cases y with
       | c y => exact fitCV_ok hρ hf hx
       | a n g => exact hf.elim
     | a n g => cases y with
       | c y => exact hf.elim
       | a n' g' =>
         obtain ⟨h1, h2⟩ := hf
         obtain rfl := Nat.eq_of_beq_eq_true (chk_iff.1 h1)
         obtain ⟨cs, rfl, h3, h4⟩ := hx
         exact ⟨cs, rfl, h3, fun j hj => let ⟨u, hu, hr⟩ := h4 j hj; ⟨u, hu, fitCV_ok hρ (allM_get h2 j hj) hr⟩⟩
theorem named_bad {β1 β2 : Nat → Loc} : Named (fun _ => Src.bad) β1 β2 := ⟨fun _ _ h => by simp at h, fun _ h => by simp at h⟩
theorem fitTV_ok {ρ : Nat → Src} {β1 β2 : Nat → Loc} (hρ : Named ρ β1 β2) {x y : TV} {v : Value} (hf : fitTV ρ x y) (hx : RT β1 Z w x v) : RT β2 Z w y v :=
 fitAV_ok (x := .t x) (y := .t y) hρ hf hx
theorem fitTVs_ok : ∀ {l r : List TV} {vs : List Value}, fitTVs l r → RL β Z w l vs → RL β Z w r vs
 | [], [], [], _, _ => trivial
 | [], [], _ :: _, _, h => h.elim
 | [], _ :: _, _, h, _ => h.elim
 | _ :: _, [], _, h, _ => h.elim
 | x :: _, _ :: _, [], _, h => by cases x <;> exact h.elim
 | _ :: _, _ :: _, _ :: _, h, h' => ⟨fitTV_ok named_bad h.1 h'.1, fitTVs_ok h.2 h'.2⟩
theorem fitBlk_ok {ρ : Nat → Src} (hρ : Named ρ β1 β2) {l : Loc} {x y : Blk} (hf : fitBlk ρ x y) (hx : RB β1 Z w l x) : RB β2 Z w l y := by
 unfold fitBlk at hf
 split at hf
 · obtain ⟨h1, h2⟩ := hf
   obtain rfl := Nat.eq_of_beq_eq_true (chk_iff.1 h1)
   cases l with
   | no => exact hx.elim
   | virt => exact hx.elim
   | «at» b ln =>
     obtain ⟨cs, e, a1, a2, a3⟩ := hx
     exact ⟨cs, e, a1, a2, fun j hj => let ⟨u, hu, hr⟩ := a3 j hj; ⟨u, hu, fitCV_ok hρ (allM_get h2 j hj) hr⟩⟩
 · obtain ⟨h1, h2, rfl, h3⟩ := hf
   obtain rfl := Nat.eq_of_beq_eq_true (chk_iff.1 h1)
   obtain rfl := Nat.eq_of_beq_eq_true (chk_iff.1 h2)
   cases l with
   | no => exact hx.elim
   | virt => exact hx
   | «at» b ln =>
     obtain ⟨a0, cs, a1, a2, a3⟩ := hx
     exact ⟨a0, cs, a1, a2, fun i hi j hj => let ⟨u, hu, hr⟩ := a3 i hi j hj; ⟨u, hu, fitP_ok (allN_get (h3 i hi) j hj) hr⟩⟩
 · obtain ⟨h1, h2⟩ := hf
   obtain rfl := sameT_eq (chk_iff.1 h1)
   cases l with
   | no => exact hx.elim
   | virt => exact hx.elim
   | «at» b ln =>
     rename_i m m'
     obtain rfl : m = m' := funext h2
     exact hx
 · obtain ⟨h1, h2⟩ := hf
   obtain rfl := sameT_eq (chk_iff.1 h1)
   cases l with
   | no => exact hx.elim
   | virt => exact hx.elim
   | «at» b ln =>
     obtain ⟨es, clock, a1, a2⟩ := hx
     exact ⟨es, clock, _, a1, a2, h2⟩
 · obtain ⟨h1, h2⟩ := hf
   obtain rfl := sameT_eq (chk_iff.1 h1)
   cases l with
   | no => exact hx.elim
   | virt => exact hx.elim
   | «at» b ln =>
     obtain ⟨es, clock, m, a1, a2, a3⟩ := hx
     exact ⟨es, clock, m, a1, a2, fun ks x h => h2 ks x (a3 ks x h)⟩
 · obtain ⟨h1, h2, rfl⟩ := hf
   obtain rfl := sameT_eq (chk_iff.1 h1)
   cases l with
   | no => exact hx.elim
   | virt => exact hx.elim
   | «at» b ln =>
     rename_i m c m'
     obtain rfl : m = m' := funext h2
     exact hx
 · obtain ⟨h1, h2⟩ := hf
   obtain rfl := sameT_eq (chk_iff.1 h1)
   cases l with
   | no => exact hx.elim
   | virt => exact hx.elim
   | «at» b ln =>
     rename_i m c m'
     obtain rfl : fstM m = m' := funext h2
     obtain ⟨es, a1, a2⟩ := hx
     exact ⟨es, c, a1, a2.base⟩
 · exact hf.elim
end
end Go.Sx
namespace Go.Sx
def Fn (ro : Option Nat) : Fence := { Fence.wide with round := ro }
structure Sat (E : Env) (st : St) (β : Nat → Loc) (Z : Nat → Prop) (a : Act) (w : World) : Prop where
 heap : SatH E 0 (fun n => st.nx ≤ n) β Z st.hp w
 tm : ∀ t, RA β Z w (st.tm t) (a.tmps.getD t undef)
 sz : a.tmps.size = st.sz
def HS.of (st : St) (β : Nat → Loc) (Z : Nat → Prop) (w : World) : HS := ⟨β, Z, st.hp, st.nx, st.wl, w⟩
structure EnvOk (P : Program) (E : Env) : Prop where
 tab : TabOk P E
 fn : ∀ f fn, E.fn f = some fn → P.funcs[f]? = some fn
 runs : ∀ f, (E.fn f).isSome = true ∨ (E.sig f).isSome = true → ∃ fn c, P.funcs[f]? = some fn ∧ (fn.name == "runtime.NumGoroutine") = false ∧ fn.body = some c
 sig : ∀ f s x, E.sig f = some s → s.pre x → CallQ P E f (s.arg x) (s.res x)
 mix : P.follows .mixedOrders = true
 maps : MapsOk P E
 again : ∀ f R g, E.again f = some R → R.ok g → SemRec P E f R g
 kept : ∀ f R g, E.kept f = some R → R.ok g → SemK P E f R g
 even : ∀ f R g, E.even f = some R → R.ok g → SemK P E f R.toK g
def CallPost (E : Env) (x : HS) (K : AV → Hp → Nat → List Nat → Prop) : Ending → World → Prop := fun e w' =>
 ∃ val v y, e = .returned val ∧ K v y.hp y.nx y.wl ∧ y.w = w' ∧ y.ok E ∧ RA y.β y.Z w' v val ∧ Turn x y
def InlOk (P : Program) (E : Env) (inl : CallVC) : Prop :=
 ∀ (f : FuncId) (args : List TV) (x : HS) K, inl f args x.hp x.nx x.wl K → x.ok E → ∀ vs : List Value, RL x.β x.Z x.w args vs → CallsIn Fence.wide 0 P f vs.toArray x.w (CallPost E x K)
def InlFn (E : Env) (inl : CallVC) : Prop := ∀ f args hp nx wl K, inl f args hp nx wl K → (E.fn f).isSome = true
def YldOk (P : Program) (E : Env) (yld : YieldVC) : Prop :=
 ∀ (n : Nat) (args : List TV) (x : HS) K, yld n args x.hp x.nx x.wl K → x.ok E → ∀ vs : List Value, RL x.β x.Z x.w args vs → ∃ b ln r, x.β n = .at b ln ∧ x.w.heap[b]? = some (.loop r) ∧ vs.toArray.size = r.params.size ∧
   RoundIn Fence.wide 0 P b r.fn ((r.params.zip vs.toArray).foldl (fun tmps (t, a) => tmps.setIfInBounds t a) r.tmps) r.assign r.body x.w (CallPost E x K)
def OpPost (E : Env) (x : HS) (sz : Nat) (dst : Option Nat) (a : Act) (K : St → Prop) : Act → World → Prop := fun a' w' =>
 ∃ st' β' Z', K st' ∧ Sat E st' β' Z' a' w' ∧ Turn x (HS.of st' β' Z' w') ∧ st'.sz = sz ∧ (∀ t, dst ≠ some t → a'.tmps.getD t undef = a.tmps.getD t undef) ∧ a'.defers = a.defers
section
variable {P : Program} {E : Env} {β β' : Nat → Loc} {Z Z' : Nat → Prop} {hp : Hp} {w w' : World} {inl : CallVC} {yld : YieldVC}
theorem getD_put {a : Act} {dst : Option Nat} {v : Value} {t : Nat} : (a.put dst v).tmps.getD t undef = if dst = some t ∧ t < a.tmps.size then v else a.tmps.getD t undef := by
 cases dst with
 | none => simp [Act.put]
 | some d =>
   simp only [Act.put, Option.some.injEq]
   by_cases h : d = t
   · subst h
     by_cases h2 : d < a.tmps.size
     · simp [h2, Array.getD]
     · simp [h2, Array.getD]
   · simp only [h, false_and, if_false]
     simp [Array.getD_eq_getD_getElem?, Array.getElem?_setIfInBounds_ne h]
theorem Sat.next {st : St} {a : Act} {dst : Option Nat} {v : AV} {val : Value} {y : HS} (hs : Sat E st β Z a w) (hd : st.has dst = true) (hy : y.ok E) (hev : Evo (Own β st.hp) Z w y.Z y.w) (hext : Ext β y.β)
   (hv : RA y.β y.Z y.w v val) : Sat E (st.next dst v y.hp y.nx y.wl) y.β y.Z (a.put dst val) y.w := by
 refine ⟨hy, fun t => ?_, ?_⟩
 · have old := RA.mono hev hs.heap.calm hext (hs.tm t)
   rw [getD_put]
   cases dst with
   | none => simp only [St.next]; rw [if_neg (by simp)]; exact old
   | some d =>
     simp only [St.next]
     by_cases h : d = t
     · subst h
       have hlt : d < a.tmps.size := by
         rw [hs.sz]; simp only [St.has] at hd; exact Nat.le_of_ble_eq_true hd
       rw [if_pos ⟨rfl, hlt⟩, upd_same]; exact hv
     · rw [if_neg (by simp [h]), upd_ne _ _ (Ne.symm h)]; exact old
 · have : (a.put dst val).tmps.size = a.tmps.size := by cases dst <;> simp [Act.put]
   rw [this]; exact hs.sz
theorem OpPost.of {st : St} {a : Act} {dst : Option Nat} {v : AV} {val : Value} {y : HS} {K : St → Prop} (hs : Sat E st β Z a w) (hd : st.has dst = true) (hy : y.ok E) (ht : Turn (HS.of st β Z w) y)
   (hv : RA y.β y.Z y.w v val) (hk : K (st.next dst v y.hp y.nx y.wl)) : OpPost E (HS.of st β Z w) st.sz dst a K (a.put dst val) y.w := by
 refine ⟨_, y.β, y.Z, hk, hs.next hd hy ht.ev ht.ext hv, ht, rfl, fun t h => ?_, ?_⟩
 · rw [getD_put, if_neg (fun hh => h hh.1)]
 · cases dst <;> rfl
def noCall : Plan → Prop
 | .call _ _ => False
 | .ycall _ _ => False
 | _ => True
theorem okBad.noCall {p : Plan} (h : okBad p) : noCall p := by cases p <;> first | trivial | exact h.elim
theorem noCall_need {b : Bool} {p : Plan} (h : noCall p) : noCall (need b p) := by cases b <;> trivial
theorem noCall_store {ti : TI} {x y : AV} : noCall (planStore hp ti x y) := by
 unfold planStore; repeat' split
 all_goals first | trivial | exact noCall_need trivial
theorem noCall_storeF {ti : TI} {x y : AV} : noCall (planStoreF hp ti x y) := by
 unfold planStoreF; repeat' split
 all_goals first | trivial | exact noCall_store
theorem noCall_buildSlice {ti : TI} {n : Nat} {l : List (Nat × AV)} : noCall (planBuildSlice E ti n l) := by
 unfold planBuildSlice; repeat' split
 all_goals first | trivial | exact noCall_need trivial
theorem noCall_makeSlice {ti : TI} {x y : AV} : noCall (planMakeSlice E ti x y) := by
 unfold planMakeSlice; repeat' split
 all_goals first | trivial | exact noCall_need trivial
theorem noCall_append {ti : TI} {x y : AV} : noCall (planAppend E hp ti x y) := by
 unfold planAppend Plan.cell; repeat' split
 all_goals first | trivial | exact noCall_need trivial
theorem noCall_slice {ti : TI} {x : AV} {a b c : Option AV} : noCall (planSlice E hp ti x a b c) := by
 unfold planSlice Plan.cell; repeat' split
 all_goals first | trivial | exact noCall_need trivial
theorem noCall_buildF {ti : TI} {l : List (Nat × AV)} : noCall (planBuildF hp E ti l) := by
 obtain ⟨h1, h2⟩ := noCallF_build (hp := hp) (E := E) (ti := ti) (l := l)
 generalize planBuildF hp E ti l = p at h1 h2
 cases p <;> first | trivial | exact absurd rfl (h1 _ _) | exact absurd rfl (h2 _ _)
theorem noCall_update {T : MapT} {x k y : AV} : noCall (planMapUpdate hp T x k y) := by
 unfold planMapUpdate; repeat' split
 all_goals first | trivial | exact noCall_need trivial
theorem noCall_upd {T : MapT} {x k y : AV} : noCall (planMapUpd hp T x k y) := by
 unfold planMapUpd; repeat' split
 all_goals first | trivial | exact noCall_need trivial | exact noCall_update
theorem noCall_delete {T : MapT} {x k : AV} : noCall (planDelete hp T x k) := by
 unfold planDelete; repeat' split
 all_goals first | trivial | exact noCall_need trivial
theorem noCall_entry {T : MapT} {x k : AV} : noCall (planEntry hp T x k) := by
 unfold planEntry; repeat' split
 all_goals first | trivial | exact noCall_need trivial
theorem noCall_entryStore {T : MapT} {x s v : AV} : noCall (planEntryStore hp T x s v) := by
 unfold planEntryStore; repeat' split
 all_goals first | trivial | exact noCall_need trivial
theorem plan_call {tm : Nat → AV} {o : Oper} (h : ¬ noCall (planOp E tm hp o)) : ∃ c fo l, o.op = .call c ∧ c.callee = .value fo ∧ argTVs E tm c.args.toList = some l ∧
   ((∃ g sh first nc cap, evalO E tm fo = .t (.c (.fn g sh first nc cap)) ∧ planOp E tm hp o = .call g (firstsOf sh first 0 ++ l ++ capsOf cap nc 0)) ∨ (∃ n, evalO E tm fo = .t (.c (.yl n)) ∧ planOp E tm hp o = .ycall n l)) := by
 generalize hp0 : planOp E tm hp o = p at h ⊢
 have no : noCall p → ∀ {q : Prop}, q := fun h1 => absurd h1 h
 unfold planOp at hp0
 dsimp only at hp0
 split at hp0
 case h_23 c hop =>
   unfold planCall at hp0
   split at hp0
   · repeat' split at hp0
     all_goals (subst hp0; first | exact absurd trivial h | exact absurd okBad_len.noCall h)
   · repeat' split at hp0
     all_goals (subst hp0; first | exact absurd trivial h | exact absurd (noCall_need noCall_append) h | exact absurd (noCall_need (p := .bad) trivial) h)
   · subst hp0; exact absurd okBad_mm.noCall h
   · subst hp0; exact absurd okBad_mm.noCall h
   · repeat' split at hp0
     all_goals (subst hp0; first | exact absurd trivial h | exact absurd noCall_delete h)
   · rename_i fo hcal
     split at hp0
     · rename_i g sh first nc cap l e1 e2
       exact ⟨c, fo, l, hop, hcal, e2, .inl ⟨g, sh, first, nc, cap, e1, hp0.symm⟩⟩
     · rename_i n l e1 e2
       exact ⟨c, fo, l, hop, hcal, e2, .inr ⟨n, e1, hp0.symm⟩⟩
     · subst hp0; exact absurd trivial h
   · subst hp0; exact absurd trivial h
 all_goals first
   | (subst hp0; exact absurd trivial h)
   | (subst hp0; exact absurd (okBad_cP okBad_un).noCall h)
   | (subst hp0; exact absurd okBad_func.noCall h)
   | (repeat' split at hp0
      all_goals (subst hp0; first
        | exact absurd trivial h
        | exact absurd okBad_build.noCall h
        | exact absurd noCall_buildF h
        | exact absurd noCall_buildSlice h
        | exact absurd (okBad_cP okBad_load).noCall h
        | exact absurd noCall_storeF h
        | exact absurd okBad_binC.noCall h
        | exact absurd okBad_convB.noCall h
        | exact absurd noCall_makeSlice h
        | exact absurd noCall_slice h
        | exact absurd okBad_fieldAddr.noCall h
        | exact absurd okBad_field.noCall h
        | exact absurd okBad_indexAddr.noCall h
        | exact absurd (okBad_cP okBad_index).noCall h
        | exact absurd (okBad_cP okBad_lookup).noCall h
        | exact absurd noCall_upd h
        | exact absurd noCall_entry h
        | exact absurd noCall_entryStore h
        | (refine absurd (noCall_need ?_) h; trivial)))
theorem RL.append : ∀ {l l' : List TV} {r r' : List Value}, RL β Z w l r → RL β Z w l' r' → RL β Z w (l ++ l') (r ++ r')
 | [], l', [], r', _, h => h
 | x :: l, l', v :: r, r', h, h' => ⟨h.1, RL.append h.2 h'⟩
 | [], _, _ :: _, _, h, _ => h.elim
 | x :: _, _, [], _, h, _ => by cases x <;> exact h.elim
theorem firsts_ok {first : Nat → Nat → CV} : ∀ {sh : List (Option Nat)} {fs : List Value} {i : Nat}, fs.length = sh.length →
   (∀ (k : Nat) (s : Option Nat), sh[k]? = some s → ∃ u, fs[k]? = some u ∧ (match s with
       | none => RC β Z w (first (i + k) 0) u
       | some n => ∃ xs : Array Value, u = Value.agg xs ∧ xs.size = n ∧ ∀ j, j < n → ∃ y, xs[j]? = some y ∧ RC β Z w (first (i + k) j) y)) → RL β Z w (firstsOf sh first i) fs
 | [], [], i, _, _ => trivial
 | [], _ :: _, _, h, _ => by simp at h
 | _ :: _, [], _, h, _ => by simp at h
 | s :: sh, f :: fs, i, hl, h => by
   have tail : RL β Z w (firstsOf sh first (i + 1)) fs := firsts_ok (by simpa using hl) (fun k s hk => by
     obtain ⟨u, hu, hr⟩ := h (k + 1) s (by simpa using hk)
     refine ⟨u, by simpa using hu, ?_⟩
     rw [show i + 1 + k = i + (k + 1) by omega]; exact hr)
   obtain ⟨u, hu, hr⟩ := h 0 s rfl
   simp only [List.getElem?_cons_zero, Option.some.injEq] at hu
   subst hu
   cases s with
   | none => exact ⟨hr, tail⟩
   | some n => exact ⟨hr, tail⟩
theorem caps_ok {cap : Nat → CV} : ∀ {nc i : Nat} {cs : List Value}, cs.length = nc → (∀ k, k < nc → ∃ u, cs[k]? = some u ∧ RC β Z w (cap (i + k)) u) → RL β Z w (capsOf cap nc i) cs
 | 0, _, [], _, _ => trivial
 | 0, _, _ :: _, h, _ => by simp at h
 | _ + 1, _, [], h, _ => by simp at h
 | nc + 1, i, c :: cs, hl, h => by
   obtain ⟨u, hu, hr⟩ := h 0 (by omega)
   simp only [List.getElem?_cons_zero, Option.some.injEq] at hu
   subst hu
   refine ⟨hr, caps_ok (by simpa using hl) (fun k hk => ?_)⟩
   obtain ⟨u, hu, hr⟩ := h (k + 1) (by omega)
   exact ⟨u, by simpa using hu, by rw [show i + 1 + k = i + (k + 1) by omega]; exact hr⟩
theorem fn_ok {g : FuncId} {sh : List (Option Nat)} {first : Nat → Nat → CV} {nc : Nat} {cap : Nat → CV} {v : Value} (hv : RC β Z w (.fn g sh first nc cap) v) :
   ∃ fs cs : Array Value, v = .func (.func g) fs cs ∧ RL β Z w (firstsOf sh first 0) fs.toList ∧ RL β Z w (capsOf cap nc 0) cs.toList := by
 obtain ⟨fs, cs, rfl, h1, h2, h3, h4⟩ := hv
 refine ⟨fs, cs, rfl, firsts_ok (by simpa using h1) (fun k s hk => ?_), caps_ok (by simpa using h2) (fun k hk => ?_)⟩
 · obtain ⟨u, hu, hr⟩ := h4 k s hk
   exact ⟨u, by simpa using hu, by rw [Nat.zero_add]; exact hr⟩
 · obtain ⟨u, hu, hr⟩ := h3 k hk
   exact ⟨u, by simpa using hu, by rw [Nat.zero_add]; exact hr⟩
theorem run_enter {f : FuncId} {args : Array Value} (hf : ∃ fn c, P.funcs[f]? = some fn ∧ (fn.name == "runtime.NumGoroutine") = false ∧ fn.body = some c) : (callFunc f args).run P w = .ok (.enter f args) w := by
 obtain ⟨fn, c, h1, h2, h3⟩ := hf
 have h2' : ¬ fn.name = "runtime.NumGoroutine" := fun e => by rw [e] at h2; simp at h2
 simp [callFunc, h1, h2', h3]
def Plan.log : Plan → List Nat
 | .wr _ n _ => [n]
 | .we _ n _ _ => [n]
 | .mv _ n _ _ => [n]
 | .fz _ n _ => [n]
 | .wz _ n _ m => [n, m]
 | _ => []
theorem vcStep_eff {p : Plan} {st : St} {dst : Option Nat} {K : St → Prop} {hp' : Hp} {v : AV} (h : vcStep E inl yld dst p st K) (he : p.eff st.nx st.hp = some (hp', v)) :
   AllP p.conds ∧ K (st.next dst v hp' (st.nx + 4) (p.log ++ st.wl)) ∧ ∀ n, n < st.nx → n ∉ p.log ++ st.wl → hp' n = st.hp n := by
 cases p <;> simp only [Plan.eff, Option.some.injEq, Prod.mk.injEq, reduceCtorEq] at he <;> simp only [vcStep, conj_iff] at h <;> obtain ⟨rfl, rfl⟩ := he
 · exact ⟨h.1, h.2, fun _ _ _ => rfl⟩
 · exact ⟨h.1, h.2, fun n hn _ => by rw [upd_ne _ _ (by omega)]⟩
 · exact ⟨h.1, h.2, fun n hn hl => by rw [upd_ne _ _ (fun e => hl (by simp [Plan.log, e]))]⟩
 · exact ⟨h.1, h.2, fun n hn hl => by rw [upd_ne _ _ (fun e => hl (by simp [Plan.log, e]))]⟩
 · exact ⟨h.1, h.2, fun n hn hl => by rw [upd_ne _ _ (by omega), upd_ne _ _ (fun e => hl (by simp [Plan.log, e]))]⟩
 · exact ⟨h.1, h.2, fun n hn hl => by rw [upd_ne _ _ (fun e => hl (by simp [Plan.log, e]))]⟩
 · exact ⟨h.1, h.2, fun n hn hl => by rw [upd_ne _ _ (fun e => hl (by simp [Plan.log, e])), upd_ne _ _ (fun e => hl (by simp [Plan.log, e]))]⟩
theorem noDefer {tm : Nat → AV} {o : Oper} {st : St} {dst : Option Nat} {K : St → Prop} (h : vcStep E inl yld dst (planOp E tm hp o) st K) : ∀ c, o.op ≠ .defer c := by
 intro c hc
 have : planOp E tm hp o = .bad := by unfold planOp; rw [hc]
 rw [this] at h
 exact h
theorem dropAll_get : ∀ {l : List Nat} {n : Nat}, n ∉ l → dropAll hp l n = hp n
 | [], n, _ => rfl
 | m :: l, n, h => by
   simp only [List.mem_cons, not_or] at h
   simp only [dropAll]
   rw [upd_ne _ _ h.1, dropAll_get h.2]
theorem dropAll_some : ∀ {l : List Nat} {n : Nat} {blk : Blk}, dropAll hp l n = some blk → n ∉ l ∧ hp n = some blk
 | [], n, blk, h => ⟨by simp, h⟩
 | m :: l, n, blk, h => by
   simp only [dropAll] at h
   by_cases e : n = m
   · subst e; rw [upd_same] at h; simp at h
   · rw [upd_ne _ _ e] at h
     obtain ⟨h1, h2⟩ := dropAll_some h
     exact ⟨by simp [e, h1], h2⟩
theorem sig_core (hE : EnvOk P E) {f : FuncId} {s : Sig} (hsig : E.sig f = some s) {x : s.α} {args pargs : List TV} (hq : fitTVs pargs (s.arg x) ∧ s.pre x) {nx : Nat} {Fr : Nat → Prop} (hok : SatH E 0 Fr β Z hp w) (hFr : ∀ n, nx ≤ n → n < nx + 4 → Fr n) {hpS : Hp} (hsub : ∀ n blk, hpS n = some blk → hp n = some blk)
   (hpure : pureTVs hpS args = some pargs) (hle : (Nat.ble (ownCount (s.res x)) 4 && pureRVs (s.res x)) = true) {vs : List Value} (hr : RL β Z w args vs)
   {base : Hp} (hmode : (ownTVs args = [] ∧ base = hp) ∨ (flatRVs (s.res x) = true ∧ AllP (flatOwns (s.res x)) ∧ base = hp) ∨ base = dropAll hp (ownTVs args)) :
   CallsIn Fence.wide 0 P f vs.toArray w fun e w' => ∃ val β' Z', e = .returned val ∧ Left E 0 (fun n => Fr n ∧ ¬ (nx ≤ n ∧ n < nx + 4)) β Z hp w β' Z' (resHp base (s.res x) nx) w' ∧ RA β' Z' w' (resAV (resTVs (s.res x) nx)) val := by
 simp only [Bool.and_eq_true] at hle
 have hle4 := Nat.le_of_ble_eq_true hle.1
 let Z1 := Zargs β Z hp (ownTVs args)
 have hz1lt : ∀ b, Z1 b → b < w.heap.size := fun b hb => Zargs.lt hok b hb
 have hz1 : ∀ b, Z b → Z1 b := fun b hb => .inl hb
 have hz1o : ∀ b, Z1 b → Z b ∨ Own β hp b := fun b hb => hb.imp id (fun ⟨n, blk, ln, _, h1, h2⟩ => ⟨n, blk, ln, h1, h2⟩)
 have hsat0 : SatH E 0 (fun _ => True) (fun _ => .no) Z1 (fun _ => none) w :=
   ⟨fun n blk h => by simp at h, fun n blk b ln h => by simp at h, fun n m x y b l1 l2 h => by simp at h, hz1lt, fun _ _ => rfl, hok.gl.mono (own := fun _ => False) (Evo.zup hz1) (fun b hb => ⟨hok.zlt b hb, fun h => h⟩)⟩
 have hargs : RL (fun _ => .no) Z1 w pargs vs := pureTVs_ok hok hsub hr (fun n hn => hn) hpure
 refine CallsIn.mono (hE.sig f s x hsig hq.2 Z1 w vs hsat0 (fitTVs_ok hq.1 hargs)) fun e w' hpost => ?_
 obtain ⟨val, β1, Z1', rfl, c1, c2, c3, c4, c5⟩ := hpost
 have hZ1' : ∀ b, Z b → Z1' b := fun b hb => c3.zmono b (hz1 b hb)
 have key : ∀ (Z2 : Nat → Prop), (∀ n blk, base n = some blk → hp n = some blk) → (∀ b, Z b → Z2 b) → (∀ b, Z2 b → Z b ∨ Z1' b) → (∀ n blk b ln, base n = some blk → β n = .at b ln → ¬ Z2 b) → Carry (s.res x) Z1' Z2 →
     ∃ val' β' Z', Ending.returned val = .returned val' ∧ Left E 0 (fun n => Fr n ∧ ¬ (nx ≤ n ∧ n < nx + 4)) β Z hp w β' Z' (resHp base (s.res x) nx) w' ∧ RA β' Z' w' (resAV (resTVs (s.res x) nx)) val' := by
   intro Z2 k1 k2 k3 k4 k5
   obtain ⟨β2, r1, r2, r3, r4, r5, r6, _⟩ := back_ok hok hFr hle4 hz1 hz1lt hz1o c1 c2 c3 c4 c5 k1 k2 k3 k4 k5
   exact ⟨val, β2, Z2, rfl, ⟨r1, r3, r4, r5, r6⟩, r2⟩
 rcases hmode with ⟨h1, rfl⟩ | ⟨h1, h2, rfl⟩ | rfl
 · refine key Z1' (fun n blk h => h) hZ1' (fun b hb => .inr hb) (fun n blk b ln hn hb hz => ?_) (.pure (fun _ h => h) hle.2)
   have ho := hok.own n blk b ln hn hb
   rcases c5 b hz with h3 | h3
   · rcases h3 with h3 | ⟨m, _, _, hm, _⟩
     · exact ho.2.1 h3
     · rw [h1] at hm; simp at hm
   · omega
 · exact key Z (fun n blk h => h) (fun _ h => h) (fun b hb => .inl hb) (fun n blk b ln hn hb hz => (hok.own n blk b ln hn hb).2.1 hz) (.flat h1 h2)
 · refine key Z1' (fun n blk h => (dropAll_some h).2) hZ1' (fun b hb => .inr hb) (fun n blk b ln hn hb hz => ?_) (.pure (fun _ h => h) hle.2)
   obtain ⟨hn1, hn2⟩ := dropAll_some hn
   have ho := hok.own n blk b ln hn2 hb
   rcases c5 b hz with h3 | h3
   · rcases h3 with h3 | ⟨m, blk', ln', hm, h4, h5⟩
     · exact ho.2.1 h3
     · have := hok.inj n m blk blk' b ln ln' hn2 h4 hb h5
       subst this; exact hn1 hm
   · omega
theorem sig_deep (hE : EnvOk P E) {f : FuncId} {s : Sig} (hsig : E.sig f = some s) {x : s.α} {args pargs : List TV} (hq : fitTVs pargs (s.arg x) ∧ s.pre x) {nx : Nat} {Fr : Nat → Prop} (hok : SatH E 0 Fr β Z hp w) (hFr : ∀ n, nx ≤ n → n < nx + 4 → Fr n) {hpS : Hp} (hsub : ∀ n blk, hpS n = some blk → hp n = some blk)
   (hpure : pureTVsD hpS args = some pargs) (hle : (Nat.ble (ownCount (s.res x)) 4 && pureRVs (s.res x) && flatRVs (s.res x)) = true) (hfo : AllP (flatOwns (s.res x))) {vs : List Value} (hr : RL β Z w args vs) :
   CallsIn Fence.wide 0 P f vs.toArray w fun e w' => ∃ val β' Z', e = .returned val ∧ Left E 0 (fun n => Fr n ∧ ¬ (nx ≤ n ∧ n < nx + 4)) β Z hp w β' Z' (resHp hp (s.res x) nx) w' ∧ RA β' Z' w' (resAV (resTVs (s.res x) nx)) val := by
 simp only [Bool.and_eq_true] at hle
 have hle4 := Nat.le_of_ble_eq_true hle.1.1
 let Z1 := Zown β Z hp
 have hz1lt : ∀ b, Z1 b → b < w.heap.size := fun b hb => Zown.lt hok b hb
 have hz1 : ∀ b, Z b → Z1 b := fun b hb => .inl hb
 have hz1o : ∀ b, Z1 b → Z b ∨ Own β hp b := fun b hb => hb
 have hsat0 : SatH E 0 (fun _ => True) (fun _ => .no) Z1 (fun _ => none) w :=
   ⟨fun n blk h => by simp at h, fun n blk b ln h => by simp at h, fun n m x y b l1 l2 h => by simp at h, hz1lt, fun _ _ => rfl, hok.gl.mono (own := fun _ => False) (Evo.zup hz1) (fun b hb => ⟨hok.zlt b hb, fun h => h⟩)⟩
 have hargs : RL (fun _ => .no) Z1 w pargs vs := pureTVsD_ok hok hsub hr hpure
 refine CallsIn.mono (hE.sig f s x hsig hq.2 Z1 w vs hsat0 (fitTVs_ok hq.1 hargs)) fun e w' hpost => ?_
 obtain ⟨val, β1, Z1', rfl, c1, c2, c3, c4, c5⟩ := hpost
 obtain ⟨β2, r1, r2, r3, r4, r5, r6, _⟩ := back_ok (base := hp) (Z2 := Z) hok hFr hle4 hz1 hz1lt hz1o c1 c2 c3 c4 c5 (fun n blk h => h) (fun _ h => h) (fun b hb => .inl hb) (fun n blk b ln hn hb hz => (hok.own n blk b ln hn hb).2.1 hz) (.flat hle.2 hfo)
 exact ⟨val, β2, Z, rfl, ⟨r1, r3, r4, r5, r6⟩, r2⟩
theorem sig_ok (hE : EnvOk P E) {f : FuncId} {s : Sig} (hsig : E.sig f = some s) {x : s.α} {args pargs : List TV} (hq : fitTVs pargs (s.arg x) ∧ s.pre x) {hs : HS} (hok : hs.ok E) {hpS : Hp} (hsub : ∀ n blk, hpS n = some blk → hs.hp n = some blk)
   (hpure : pureTVs hpS args = some pargs) (hle : (Nat.ble (ownCount (s.res x)) 4 && pureRVs (s.res x)) = true) {vs : List Value} (hr : RL hs.β hs.Z hs.w args vs)
   {base : Hp} {wl : List Nat} (hmode : (ownTVs args = [] ∧ base = hs.hp ∧ wl = hs.wl) ∨ (flatRVs (s.res x) = true ∧ AllP (flatOwns (s.res x)) ∧ base = hs.hp ∧ wl = hs.wl) ∨ (base = dropAll hs.hp (ownTVs args) ∧ wl = ownTVs args ++ hs.wl)) :
   CallsIn Fence.wide 0 P f vs.toArray hs.w fun e w' => ∃ val y, e = .returned val ∧ y.hp = resHp base (s.res x) hs.nx ∧ y.nx = hs.nx + 4 ∧ y.wl = wl ∧ y.w = w' ∧ y.ok E ∧ RA y.β y.Z w' (resAV (resTVs (s.res x) hs.nx)) val ∧ Turn hs y := by
 have hw : (∀ n, n ∈ hs.wl → n ∈ wl) ∧ (∀ n, n ∉ wl → base n = hs.hp n) := by
   rcases hmode with ⟨_, rfl, rfl⟩ | ⟨_, _, rfl, rfl⟩ | ⟨rfl, rfl⟩
   · exact ⟨fun _ h => h, fun _ _ => rfl⟩
   · exact ⟨fun _ h => h, fun _ _ => rfl⟩
   · exact ⟨fun n hn => by simp [hn], fun n hn => dropAll_get (fun h => hn (by simp [h]))⟩
 refine CallsIn.mono (sig_core hE hsig hq hok (nx := hs.nx) (fun n h _ => h) hsub hpure hle hr (base := base) (by
   rcases hmode with ⟨h1, h2, _⟩ | ⟨h1, h2, h3, _⟩ | ⟨h1, _⟩
   · exact .inl ⟨h1, h2⟩
   · exact .inr (.inl ⟨h1, h2, h3⟩)
   · exact .inr (.inr h1))) fun e w' hpost => ?_
 obtain ⟨val, β', Z', rfl, hl, hv⟩ := hpost
 refine ⟨val, ⟨β', Z', resHp base (s.res x) hs.nx, hs.nx + 4, wl, w'⟩, rfl, rfl, rfl, rfl, rfl, hl.sat.weaken (fun n (hn : hs.nx + 4 ≤ n) => ⟨by omega, by omega⟩), hv, ⟨hl.ev, hl.ext, hl.own, hl.zown, Nat.le_add_right _ _, hw.1, fun n hn hnw => (resHp_get (.inl hn)).trans (hw.2 n hnw)⟩⟩
theorem step_sound (hE : EnvOk P E) (hI : InlOk P E inl) (hIf : InlFn E inl) (hY : YldOk P E yld) {o : Oper} {st : St} {K : St → Prop} {a : Act} {ro : Option Nat} {Q' : Exit → Act → World → Prop} (hh : st.has o.dst = true)
   (h : vcStep E inl yld o.dst (planOp E st.tm st.hp o) st K) (hs : Sat E st β Z a w) : o.wpIn (Fn ro) 0 P a w (OpPost E (HS.of st β Z w) st.sz o.dst a K) Q' := by
 refine ⟨fun _ _ => trivial, ?_⟩
 rw [Oper.semAt_eq _ _ _ (noDefer h)]
 by_cases hnc : noCall (planOp E st.tm st.hp o)
 · cases he : (planOp E st.tm st.hp o).eff st.nx st.hp with
   | none =>
     cases hp0 : planOp E st.tm st.hp o <;> rw [hp0] at he hnc h <;> first | (simp [Plan.eff] at he; done) | exact hnc.elim | exact h.elim
   | some r =>
     obtain ⟨hp', v⟩ := r
     obtain ⟨h1, h2, h3⟩ := vcStep_eff h he
     obtain ⟨nx, val, w', β', Z', hrun, hnx, hl, hv⟩ := op_ok hE.tab hE.maps hs.heap (Nat.zero_le _) (nm := st.nx) (Nat.le_refl _) (fun n blk h => h) hs.tm h1 he
     have hy : (⟨β', Z', hp', st.nx + 4, (planOp E st.tm st.hp o).log ++ st.wl, w'⟩ : HS).ok E := hl.sat.weaken (fun n (hn : st.nx + 4 ≤ n) => ⟨by omega, by omega⟩)
     have hT : Turn (HS.of st β Z w) ⟨β', Z', hp', st.nx + 4, (planOp E st.tm st.hp o).log ++ st.wl, w'⟩ :=
       ⟨hl.ev, hl.ext, hl.own, hl.zown, Nat.le_add_right _ _, fun n hn => by simp [HS.of] at hn; simp [hn], h3⟩
     rw [hrun]
     rcases hnx with rfl | ⟨rfl, rfl⟩
     · exact OpPost.of hs hh hy hT hv h2
     · exact OpPost.of hs hh hy hT hv h2
 · obtain ⟨c, fo, l, hop, hcal, hargs, hcase⟩ := plan_call hnc
   have hl := args_ok hs.heap.gl hs.tm hargs
   have hfo := eval_ok hs.heap.gl hs.tm fo
   have hex : execOp a.eval o = (do let d ← resolve a.eval c o.type; invoke d.target d.args) := by simp [execOp, hop]
   rw [hex]
   rcases hcase with ⟨g, sh, first, nc, cap, hev, hplan⟩ | ⟨n, hev, hplan⟩
   · rw [hplan] at h
     rw [hev] at hfo
     obtain ⟨fs, cs, hv, q1, q2⟩ := fn_ok hfo
     have hrl : RL β Z w (firstsOf sh first 0 ++ l ++ capsOf cap nc 0) (fs.toList ++ c.args.toList.map a.eval ++ cs.toList) := (q1.append hl).append q2
     have hruns : (E.fn g).isSome = true ∨ (E.sig g).isSome = true → (do let d ← resolve a.eval c o.type; invoke d.target d.args : Sem Next).run P w = .ok (.enter g (fs.toList ++ c.args.toList.map a.eval ++ cs.toList).toArray) w := fun hg => by
       have := run_enter (w := w) (args := (fs ++ c.args.map a.eval) ++ cs) (hE.runs g hg)
       simp only [resolve, hcal, hv, Deferred.ofValue, Sem.run_bind, Sem.run_pure, Result.andThen_ok, invoke]
       rw [this]
       congr 2
       apply Array.ext'
       simp
     simp only [vcStep] at h
     split at h
     · rename_i s hsig
       rw [hruns (.inr (by rw [hsig]; rfl))]
       refine ⟨fun hd => by simp [Fn, Fence.wide] at hd, ?_⟩
       split at h
       · rename_i pargs hpure
         obtain ⟨x, hq1, hq2, h⟩ := h
         have hq := And.intro hq1 hq2
         split at h
         · rename_i hle
           have fin : ∀ {base : Hp} {wl : List Nat}, ((ownTVs (firstsOf sh first 0 ++ l ++ capsOf cap nc 0) = [] ∧ base = st.hp ∧ wl = st.wl) ∨ (flatRVs (s.res x) = true ∧ AllP (flatOwns (s.res x)) ∧ base = st.hp ∧ wl = st.wl) ∨ (base = dropAll st.hp (ownTVs (firstsOf sh first 0 ++ l ++ capsOf cap nc 0)) ∧ wl = ownTVs (firstsOf sh first 0 ++ l ++ capsOf cap nc 0) ++ st.wl)) →
               K (st.next o.dst (resAV (resTVs (s.res x) st.nx)) (resHp base (s.res x) st.nx) (st.nx + 4) wl) → _ := fun {base wl} hmode hk =>
             CallsIn.mono (sig_ok hE hsig hq (hs := HS.of st β Z w) hs.heap (fun n blk h => h) hpure hle hrl hmode) (R' := fun
               | .returned v, w' => OpPost E (HS.of st β Z w) st.sz o.dst a K (a.put o.dst v) w'
               | .panicked chain, w' => Q' (.panic chain) a w'
               | .outgrown, _ => LetsOut Q') fun e w' ⟨val, y, he, y1, y2, y3, y4, y5, y6, y7⟩ => by
                 subst he; subst y4
                 exact OpPost.of hs hh y5 y7 y6 (by rw [y1, y2, y3]; exact hk)
           split at h
           · rename_i hemp
             exact fin (.inl ⟨by simpa [List.isEmpty_iff] using hemp, rfl, rfl⟩) h
           · split at h
             · rename_i hfl
               rw [conj_iff] at h
               exact fin (.inr (.inl ⟨hfl, h.1, rfl, rfl⟩)) h.2
             · exact fin (.inr (.inr ⟨rfl, rfl⟩)) h
         · exact h.elim
       · split at h
         · rename_i pargs hpure
           obtain ⟨x, hq1, hq2, h⟩ := h
           split at h
           · rename_i hle
             rw [conj_iff] at h
             refine CallsIn.mono (sig_deep hE hsig ⟨hq1, hq2⟩ hs.heap (nx := st.nx) (fun n h _ => h) (fun n blk h => h) hpure hle h.1 hrl) (R' := fun
               | .returned v, w' => OpPost E (HS.of st β Z w) st.sz o.dst a K (a.put o.dst v) w'
               | .panicked chain, w' => Q' (.panic chain) a w'
               | .outgrown, _ => LetsOut Q') fun e w' hpost => by
                 obtain ⟨val, β', Z', he, hl, hv⟩ := hpost
                 subst he
                 exact OpPost.of (y := ⟨β', Z', resHp st.hp (s.res x) st.nx, st.nx + 4, st.wl, w'⟩) hs hh (hl.sat.weaken (fun n (hn : st.nx + 4 ≤ n) => ⟨by show st.nx ≤ n; omega, by omega⟩)) ⟨hl.ev, hl.ext, hl.own, hl.zown, Nat.le_add_right _ _, fun _ h => h, fun n hn _ => resHp_get (.inl hn)⟩ hv h.2
           · exact h.elim
         · exact h.elim
     · rename_i hsig
       rw [hruns (.inl (hIf _ _ _ _ _ _ h))]
       refine ⟨fun hd => by simp [Fn, Fence.wide] at hd, ?_⟩
       refine CallsIn.mono (hI g _ (HS.of st β Z w) _ h hs.heap _ hrl) fun e w' ⟨val, v, y, he, hk, yw, yok, yv, yt⟩ => ?_
       subst he; subst yw
       have yok4 : (⟨y.β, y.Z, y.hp, y.nx + 4, y.wl, y.w⟩ : HS).ok E := yok.weaken (fun n (hn : y.nx + 4 ≤ n) => by show y.nx ≤ n; omega)
       exact OpPost.of (y := ⟨y.β, y.Z, y.hp, y.nx + 4, y.wl, y.w⟩) hs hh yok4 ⟨yt.ev, yt.ext, yt.own, yt.zown, Nat.le_trans yt.nx (Nat.le_add_right _ _), yt.wl, yt.frame⟩ yv hk
   · rw [hplan] at h
     rw [hev] at hfo
     obtain ⟨b, ln, hb, hv⟩ := hfo
     simp only [vcStep] at h
     obtain ⟨b', ln', r, hb', hloop, hsz, hround⟩ := hY n _ (HS.of st β Z w) _ h hs.heap _ hl
     have : b' = b := by
       have e : Loc.at b' ln' = Loc.at b ln := hb'.symm.trans hb
       injection e
     subst this
     have hrun : (do let d ← resolve a.eval c o.type; invoke d.target d.args : Sem Next).run P w = .ok (.round b' r.fn ((r.params.zip (c.args.toList.map a.eval).toArray).foldl (fun tmps (t, a) => tmps.setIfInBounds t a) r.tmps) r.assign r.body) w := by
       simp only [resolve, hcal, hv, Deferred.ofValue, Sem.run_bind, Sem.run_pure, Result.andThen_ok, invoke]
       have e : (#[] ++ c.args.map a.eval) = (c.args.toList.map a.eval).toArray := by apply Array.ext'; simp
       have hloop' : w.heap[b']? = some (.loop r) := hloop
       simp only [e, Instr.yield, Sem.run_bind, Instr.getLoop, getObj, Sem.run, hloop', Result.andThen_ok, hsz, ne_eq, not_true_eq_false, if_false]
       simp [Result.andThen, Sem.run]
     rw [hrun]
     refine ⟨fun hd => by simp [Fn, Fence.wide] at hd, ?_⟩
     refine RoundIn.mono hround fun e w' ⟨val, v, y, he, hk, yw, yok, yv, yt⟩ => ?_
     subst he; subst yw
     have yok4 : (⟨y.β, y.Z, y.hp, y.nx + 4, y.wl, y.w⟩ : HS).ok E := yok.weaken (fun n (hn : y.nx + 4 ≤ n) => by show y.nx ≤ n; omega)
     exact OpPost.of (y := ⟨y.β, y.Z, y.hp, y.nx + 4, y.wl, y.w⟩) hs hh yok4 ⟨yt.ev, yt.ext, yt.own, yt.zown, Nat.le_trans yt.nx (Nat.le_add_right _ _), yt.wl, yt.frame⟩ yv hk
end
end Go.Sx
namespace Go.Sx
section
variable {P : Program} {E : Env} {β0 β1 β2 β : Nat → Loc} {Z0 Z1 Z Z' : Nat → Prop} {hp : Hp} {w0 w1 w : World}
theorem RC.rebase (ag : ∀ n, β0 n ≠ .no → β2 n = β1 n) : ∀ {x : CV} {u0 u : Value}, RC β0 Z0 w0 x u0 → RC β1 Z w x u → RC β2 Z w x u := by
 have at_ : ∀ {n b ln b' ln'}, β0 n = .at b ln → β1 n = .at b' ln' → β2 n = .at b' ln' := fun {n b ln b' ln'} h0 h1 => by rw [ag n (by rw [h0]; simp), h1]
 intro x
 induction x with
 | ptr n off => rintro u0 u ⟨b, ln, h0, _⟩ ⟨b', ln', h1, h2⟩; exact ⟨b', ln', at_ h0 h1, h2⟩
 | ep n size i off => rintro u0 u ⟨b, ln, h0, _, _⟩ ⟨b', ln', h1, h2⟩; exact ⟨b', ln', at_ h0 h1, h2⟩
 | ax n off i sz len fo => rintro u0 u ⟨b, ln, h0, _, _⟩ ⟨b', ln', h1, h2⟩; exact ⟨b', ln', at_ h0 h1, h2⟩
 | mp n => rintro u0 u ⟨b, ln, h0, _⟩ ⟨b', ln', h1, h2⟩; exact ⟨b', ln', at_ h0 h1, h2⟩
 | yl n => rintro u0 u ⟨b, ln, h0, _⟩ ⟨b', ln', h1, h2⟩; exact ⟨b', ln', at_ h0 h1, h2⟩
 | os n size len =>
   intro u0 u h0 h1
   have h0' : ROs w0 (β0 n) size len u0 := h0
   have h1' : ROs w (β1 n) size len u := h1
   show ROs w (β2 n) size len u
   rw [ag n (by intro e; rw [e] at h0'; exact h0')]; exact h1'
 | fn f sh first nc cap ih1 ih2 =>
   rintro u0 u ⟨fs0, cs0, _, a1, a2, a3, a4⟩ ⟨fs, cs, e, b1, b2, b3, b4⟩
   refine ⟨fs, cs, e, b1, b2, fun i hi => ?_, fun i s hs => ?_⟩
   · obtain ⟨v0, _, r0⟩ := a3 i hi
     obtain ⟨v, hv, r⟩ := b3 i hi
     exact ⟨v, hv, ih2 i r0 r⟩
   · obtain ⟨v0, _, r0⟩ := a4 i s hs
     obtain ⟨v, hv, r⟩ := b4 i s hs
     refine ⟨v, hv, ?_⟩
     cases s with
     | none => exact ih1 i 0 r0 r
     | some n =>
       obtain ⟨xs0, _, _, q0⟩ := r0
       obtain ⟨xs, e1, e2, q⟩ := r
       exact ⟨xs, e1, e2, fun j hj => let ⟨y0, _, z0⟩ := q0 j hj; let ⟨y, hy, z⟩ := q j hj; ⟨y, hy, ih1 i j z0 z⟩⟩
 | _ => intro u0 u _ h1; exact h1
theorem RT.rebase (ag : ∀ n, β0 n ≠ .no → β2 n = β1 n) {x : TV} {u0 u : Value} (h0 : RT β0 Z0 w0 x u0) (h1 : RT β1 Z w x u) : RT β2 Z w x u := by
 cases x with
 | c x => exact RC.rebase ag h0 h1
 | a n get =>
   obtain ⟨cs0, _, _, q0⟩ := h0
   obtain ⟨cs, e1, e2, q⟩ := h1
   exact ⟨cs, e1, e2, fun j hj => let ⟨y0, _, z0⟩ := q0 j hj; let ⟨y, hy, z⟩ := q j hj; ⟨y, hy, RC.rebase ag z0 z⟩⟩
theorem RA.rebase (ag : ∀ n, β0 n ≠ .no → β2 n = β1 n) {x : AV} {u0 u : Value} (h0 : RA β0 Z0 w0 x u0) (h1 : RA β1 Z w x u) : RA β2 Z w x u := by
 cases x with
 | any => trivial
 | t x => exact RT.rebase ag h0 h1
 | tup l =>
   obtain ⟨cs0, _, _, q0⟩ := h0
   obtain ⟨cs, e1, e2, q⟩ := h1
   exact ⟨cs, e1, e2, fun j x hj => let ⟨y0, _, z0⟩ := q0 j x hj; let ⟨y, hy, z⟩ := q j x hj; ⟨y, hy, RT.rebase ag z0 z⟩⟩
theorem RB.rebase (ag : ∀ n, β0 n ≠ .no → β2 n = β1 n) {l0 l : Loc} {x : Blk} (h0 : RB β0 Z0 w0 l0 x) (h1 : RB β1 Z w l x) (hl : ∀ b ln, l = .at b ln → ∃ b0 ln0, l0 = .at b0 ln0) : RB β2 Z w l x := by
 cases l with
 | no => cases x <;> exact h1.elim
 | virt => cases x <;> first | exact h1 | exact h1.elim
 | «at» b ln =>
   obtain ⟨b0, ln0, rfl⟩ := hl b ln rfl
   cases x with
   | box n get =>
     obtain ⟨cs0, _, _, _, q0⟩ := h0
     obtain ⟨cs, e, a1, a2, q⟩ := h1
     exact ⟨cs, e, a1, a2, fun j hj => let ⟨y0, _, z0⟩ := q0 j hj; let ⟨y, hy, z⟩ := q j hj; ⟨y, hy, RC.rebase ag z0 z⟩⟩
   | row e size len get => exact h1
   | mp T m => exact h1
   | mpI T m => exact h1
   | mq T m c => exact h1
   | lp fid sz tm ps asg body busy pend =>
     obtain ⟨r0, _, _, q0, _⟩ := h0
     obtain ⟨r, a1, a2, q, a3⟩ := h1
     exact ⟨r, a1, a2, fun t => RA.rebase ag (q0 t) (q t), a3⟩
theorem findHp_mem : ∀ {l : List (Nat × Wit × Option Blk)} {n : Nat} {r : Wit × Option Blk}, findHp l n = some r → (n, r.1, r.2) ∈ l
 | [], n, r, h => by simp [findHp] at h
 | (m, w, b) :: l, n, r, h => by
   simp only [findHp] at h
   split at h
   · rename_i e
     have := Nat.eq_of_beq_eq_true e
     subst this
     simp at h; subst h; simp
   · simp [findHp_mem h]
theorem findHp_none : ∀ {l : List (Nat × Wit × Option Blk)} {n : Nat}, findHp l n = none ↔ ∀ x ∈ l, x.1 ≠ n
 | [], n => by simp [findHp]
 | (m, w, b) :: l, n => by
   simp only [findHp]
   split
   · rename_i e
     have := Nat.eq_of_beq_eq_true e
     subst this
     simp
   · rename_i e
     rw [findHp_none]
     have : m ≠ n := fun h => by subst h; rw [Nat.beq_refl] at e; simp at e
     simp [this]
theorem findSrc_some {st1 : St} : ∀ {l : List (Nat × Wit × Option Blk)} {n : Nat} {w : Wit} {b : Blk}, findHp l n = some (w, some b) → findSrc (srcs st1 l) n = srcOf st1 n w ∧ (n, srcOf st1 n w) ∈ srcs st1 l
 | [], n, w, b, h => by simp [findHp] at h
 | (m, w', b') :: l, n, w, b, h => by
   simp only [findHp] at h
   split at h
   · rename_i e
     have := Nat.eq_of_beq_eq_true e
     subst this
     simp at h
     obtain ⟨rfl, rfl⟩ := h
     simp [srcs, findSrc]
   · rename_i e
     obtain ⟨h1, h2⟩ := findSrc_some (st1 := st1) h
     cases b' with
     | none => exact ⟨h1, h2⟩
     | some b' =>
       simp only [srcs, findSrc, e]
       exact ⟨h1, List.mem_cons_of_mem _ h2⟩
theorem srcs_mem {st1 : St} : ∀ {l : List (Nat × Wit × Option Blk)} {n : Nat} {s : Src}, (n, s) ∈ srcs st1 l → ∃ w b, (n, w, some b) ∈ l ∧ s = srcOf st1 n w
 | [], n, s, h => by simp [srcs] at h
 | (m, w', none) :: l, n, s, h => by
   simp only [srcs] at h
   obtain ⟨w, b, h1, h2⟩ := srcs_mem h
   exact ⟨w, b, List.mem_cons_of_mem _ h1, h2⟩
 | (m, w', some b') :: l, n, s, h => by
   simp only [srcs, List.mem_cons, Prod.mk.injEq] at h
   rcases h with ⟨rfl, rfl⟩ | h
   · exact ⟨w', b', by simp, rfl⟩
   · obtain ⟨w, b, h1, h2⟩ := srcs_mem h
     exact ⟨w, b, List.mem_cons_of_mem _ h1, h2⟩
theorem findSrc_or : ∀ {ss : List (Nat × Src)} {n : Nat}, (findSrc ss n = .nm n ∧ ∀ x ∈ ss, x.1 ≠ n) ∨ (n, findSrc ss n) ∈ ss
 | [], n => .inl ⟨rfl, fun x h => by simp at h⟩
 | (m, s) :: l, n => by
   by_cases e : n = m
   · subst e; right; simp [findSrc]
   · simp only [findSrc, beq_ne e]
     rcases findSrc_or (ss := l) (n := n) with ⟨h1, h2⟩ | h
     · refine .inl ⟨h1, fun x hx => ?_⟩
       rcases List.mem_cons.1 hx with rfl | hx
       · exact Ne.symm e
       · exact h2 x hx
     · exact .inr (List.mem_cons_of_mem _ h)
theorem fitHps_get {ρ : Nat → Src} {st1 : St} : ∀ {l : List (Nat × Wit × Option Blk)} {n : Nat} {w : Wit} {b : Blk}, fitHps ρ st1 l → (n, w, some b) ∈ l → fitOne ρ st1 n b
 | [], _, _, _, _, h => by simp at h
 | (m, w', none) :: l, n, w, b, hf, h => by
   simp at h
   exact fitHps_get (l := l) hf h
 | (m, w', some b') :: l, n, w, b, hf, h => by
   simp only [List.mem_cons, Prod.mk.injEq, Option.some.injEq] at h
   rcases h with ⟨rfl, rfl, rfl⟩ | h
   · exact hf.1
   · exact fitHps_get (l := l) hf.2 h
theorem fitTms_get {ρ : Nat → Src} {st1 : St} : ∀ {l : List (Nat × AV)} {t : Nat} {v : AV}, fitTms ρ st1 l → findTm l t = some v → fitAV ρ (st1.tm t) v
 | [], _, _, _, h => by simp [findTm] at h
 | (d, v') :: l, t, v, hf, h => by
   simp only [findTm] at h
   split at h
   · rename_i e
     have := Nat.eq_of_beq_eq_true e
     subst this
     simp at h; subst h; exact hf.1
   · exact fitTms_get hf.2 h
theorem sameNames_ok : ∀ {d : List Nat} {l : List (Nat × Wit × Option Blk)}, sameNames d l = true → d = l.map (·.1)
 | [], [], _ => rfl
 | [], _ :: _, h => by simp [sameNames] at h
 | _ :: _, [], h => by simp [sameNames] at h
 | n :: d, x :: l, h => by
   simp only [sameNames, Bool.and_eq_true] at h
   rw [Nat.eq_of_beq_eq_true h.1, sameNames_ok h.2]; rfl
theorem fitNames_ok {nx : Nat} {st1 : St} {l : List (Nat × Wit × Option Blk)} (h : fitNames nx st1 l = true) :
   (∀ x ∈ l, x.1 < nx + 16 ∧ (nx ≤ x.1 ∨ x.2.1 = .self)) ∧
   (∀ m n, (m, Src.nm n) ∈ srcs st1 l → n = m ∨ nx ≤ n ∨ ∃ x ∈ l, x.1 = n) ∧
   (∀ m s, (m, s) ∈ srcs st1 l → s ≠ .bad) ∧
   (∀ m m' n, (m, Src.nm n) ∈ srcs st1 l → (m', Src.nm n) ∈ srcs st1 l → m = m') := by
 simp only [fitNames, Bool.and_eq_true, List.all_eq_true, Bool.or_eq_true] at h
 obtain ⟨⟨h1, h2⟩, h3⟩ := h
 refine ⟨fun x hx => ?_, fun m n hm => ?_, fun m s hm => ?_, fun m m' n hm hm' => ?_⟩
 · obtain ⟨a1, a2⟩ := h1 x hx
   refine ⟨Nat.le_of_ble_eq_true a1, a2.imp Nat.le_of_ble_eq_true (fun h => ?_)⟩
   split at h
   · rename_i e; exact e
   · simp at h
 · have := h2 _ hm
   simp only [Bool.or_eq_true, List.any_eq_true, Bool.and_eq_true] at this
   rcases this with (h | h) | ⟨x, hx, h, _⟩
   · exact .inl (Nat.eq_of_beq_eq_true h)
   · exact .inr (.inl (Nat.le_of_ble_eq_true h))
   · exact .inr (.inr ⟨x, hx, Nat.eq_of_beq_eq_true h⟩)
 · have := h2 _ hm
   intro e; subst e; simp at this
 · obtain ⟨i, hi⟩ := List.mem_iff_getElem?.1 hm
   obtain ⟨j, hj⟩ := List.mem_iff_getElem?.1 hm'
   have mi : ((m, Src.nm n), i) ∈ (srcs st1 l).zipIdx := by
     rw [List.mem_zipIdx_iff_getElem?]; exact hi
   have mj : ((m', Src.nm n), j) ∈ (srcs st1 l).zipIdx := by
     rw [List.mem_zipIdx_iff_getElem?]; exact hj
   have := h3 _ mi _ mj
   simp only [Bool.and_eq_true, Bool.not_eq_true'] at this
   rcases this with h | ⟨_, h⟩
   · have e := Nat.eq_of_beq_eq_true h
     subst e
     rw [hi] at hj; simp at hj; exact hj
   · simp at h
end
end Go.Sx
namespace Go.Sx
section
variable {P : Program} {E : Env} {β : Nat → Loc} {Z : Nat → Prop} {hp : Hp} {w : World}
theorem lenR_eq : ∀ {l : List (RW × Blk)}, lenR l = l.length
 | [] => rfl
 | _ :: l => by simp [lenR, lenR_eq (l := l)]
theorem nthN_mem : ∀ {ns : List Nat} {m n : Nat}, nthN ns m = some n → n ∈ ns
 | [], _, _, h => by cases h
 | k :: l, 0, n, h => by simp only [nthN, Option.some.injEq] at h; simp [h]
 | k :: l, m + 1, n, h => List.mem_cons_of_mem _ (nthN_mem (ns := l) h)
theorem nthN_lt : ∀ {ns : List Nat} {m n : Nat}, nthN ns m = some n → m < ns.length
 | [], _, _, h => by cases h
 | k :: l, 0, n, h => by simp
 | k :: l, m + 1, n, h => by have := nthN_lt (ns := l) h; simp; omega
theorem apart_inj : ∀ {ns : List Nat} {m m' n : Nat}, apart ns = true → nthN ns m = some n → nthN ns m' = some n → m = m'
 | [], _, _, _, _, h, _ => by cases h
 | k :: l, m, m', n, h, h1, h2 => by
   simp only [apart, Bool.and_eq_true, Bool.not_eq_true', List.any_eq_false] at h
   have no : n ∈ l → k ≠ n := fun hm e => h.1 n hm (by rw [e]; exact Nat.beq_refl n)
   match m, m', h1, h2 with
   | 0, 0, _, _ => rfl
   | 0, m' + 1, h1, h2 => simp only [nthN, Option.some.injEq] at h1; exact absurd h1 (no (nthN_mem (ns := l) h2))
   | m + 1, 0, h1, h2 => simp only [nthN, Option.some.injEq] at h2; exact absurd h2 (no (nthN_mem (ns := l) h1))
   | m + 1, m' + 1, h1, h2 => rw [apart_inj (ns := l) h.2 h1 h2]
theorem recBlks_get {ρ : Nat → Src} : ∀ {ns : List Nat} {l : List (RW × Blk)}, recBlks ρ hp ns l → ns.length = l.length ∧ ∀ m blk, canonHp l m = some blk → ∃ n b1, nthN ns m = some n ∧ hp n = some b1 ∧ fitBlk ρ b1 blk
 | [], [], _ => ⟨rfl, fun m blk h => by cases h⟩
 | n :: ns, (r, b) :: l, h => by
   obtain ⟨h1, h2⟩ := h
   obtain ⟨e, ih⟩ := recBlks_get h2
   refine ⟨by simp [e], fun m blk hm => ?_⟩
   match m, hm with
   | 0, hm =>
     simp only [canonHp, Option.some.injEq] at hm
     subst hm
     split at h1
     · rename_i b1 hb1; exact ⟨n, b1, rfl, hb1, h1⟩
     · exact h1.elim
   | m + 1, hm => exact ih m blk hm
 | [], _ :: _, h => h.elim
 | _ :: _, [], h => h.elim
theorem recTVs_ok {ρ : Nat → Src} {β1 β2 : Nat → Loc} (hρ : Named ρ β1 β2) : ∀ {l r : List TV} {vs : List Value}, recTVs ρ l r → RL β1 Z w l vs → RL β2 Z w r vs
 | [], [], [], _, _ => trivial
 | [], [], _ :: _, _, h => h.elim
 | x :: l, y :: r, v :: vs, h, h' => ⟨fitTV_ok hρ h.1 h'.1, recTVs_ok hρ h.2 h'.2⟩
 | x :: l, y :: r, [], _, h => by cases x <;> exact h.elim
 | [], _ :: _, _, h, _ => h.elim
 | _ :: _, [], _, h, _ => h.elim
theorem rec_ok {f : FuncId} {R : RSpec} (hR : ∀ g, R.ok g → SemRec P E f R g) {args : List TV} {x : HS} {K : AV → Hp → Nat → List Nat → Prop} (h : recCall R args x.hp x.nx x.wl K) (hok : x.ok E) {vs : List Value} (hr : RL x.β x.Z x.w args vs) :
   CallsIn Fence.wide 0 P f vs.toArray x.w (CallPost E x K) := by
 obtain ⟨g, hg, h⟩ := h
 split at h
 · rename_i ns hns
   obtain ⟨hap, htv, hbl, hk⟩ := h
   have hap := chk_iff.1 hap
   obtain ⟨hlen, hget⟩ := recBlks_get hbl
   let βc : Nat → Loc := fun m => match nthN ns m with | some n => x.β n | none => .no
   have hρ : Named (recSrc ns) x.β βc := by
     refine ⟨fun m n e => ?_, fun m e => ?_⟩
     · unfold recSrc at e
       show (match nthN ns m with | some n => x.β n | none => .no) = x.β n
       cases hn : nthN ns m with
       | none => rw [hn] at e; cases e
       | some k => rw [hn] at e; injection e with e; subst e; rfl
     · unfold recSrc at e
       split at e <;> cases e
   have βc_of : ∀ {m n}, nthN ns m = some n → βc m = x.β n := fun {m n} e => by show (match nthN ns m with | some n => x.β n | none => .no) = _; rw [e]
   have hsat : SatH E 0 (fun m => lenR (R.hp g) ≤ m) βc x.Z (canonHp (R.hp g)) x.w := by
     refine ⟨fun m blk hm => ?_, fun m blk b ln hm hb => ?_, fun m m' b1 b2 b l1 l2 hm hm' hb hb' => ?_, hok.zlt, fun m hm => ?_, hok.gl⟩
     · obtain ⟨n, b1, e1, e2, e3⟩ := hget m blk hm
       rw [βc_of e1]
       exact fitBlk_ok hρ e3 (hok.rb n b1 e2)
     · obtain ⟨n, b1, e1, e2, e3⟩ := hget m blk hm
       rw [βc_of e1] at hb
       exact hok.own n b1 b ln e2 hb
     · obtain ⟨n, c1, e1, e2, _⟩ := hget m b1 hm
       obtain ⟨n', c1', e1', e2', _⟩ := hget m' b2 hm'
       rw [βc_of e1] at hb
       rw [βc_of e1'] at hb'
       have := hok.inj n n' c1 c1' b l1 l2 e2 e2' hb hb'
       subst this
       exact apart_inj hap e1 e1'
     · show (match nthN ns m with | some n => x.β n | none => .no) = .no
       cases hn : nthN ns m with
       | none => rfl
       | some n => have := nthN_lt hn; have hm' : lenR (R.hp g) ≤ m := hm; rw [lenR_eq] at hm'; omega
   have ownc : ∀ b, Own βc (canonHp (R.hp g)) b → ∃ n b1 ln, n ∈ ns ∧ x.hp n = some b1 ∧ x.β n = .at b ln := fun b ⟨m, blk, ln, hm, hb⟩ => by
     obtain ⟨n, b1, e1, e2, _⟩ := hget m blk hm
     rw [βc_of e1] at hb
     exact ⟨n, b1, ln, nthN_mem e1, e2, hb⟩
   have ownx : ∀ b, Own βc (canonHp (R.hp g)) b → Own x.β x.hp b := fun b hb => let ⟨n, b1, ln, _, h2, h3⟩ := ownc b hb; ⟨n, b1, ln, h2, h3⟩
   have away : ∀ {n blk b ln}, n ∉ ns → x.hp n = some blk → x.β n = .at b ln → ¬ Own βc (canonHp (R.hp g)) b := fun {n blk b ln} h1 h2 h3 hb => by
     obtain ⟨n', b1, ln', k1, k2, k3⟩ := ownc b hb
     have := hok.inj n n' blk b1 b ln ln' h2 k2 h3 k3
     subst this
     exact h1 k1
   refine CallsIn.mono (hR g hg x.Z βc x.w vs hsat (recTVs_ok hρ htv hr)) fun e w' ⟨val, l, Z', he, hrb, hl, hv, ev, hz, hzlt, hgl⟩ => ?_
   have hno : x.β x.nx = .no := hok.fresh x.nx (Nat.le_refl _)
   have ext : Ext x.β (upd x.β x.nx l) := fun n hn => upd_ne _ _ (fun e => hn (by rw [e]; exact hno))
   have old : ∀ n blk, upd (dropAll x.hp ns) x.nx (some (.row R.e R.size (R.len g) (R.get g))) n = some blk → (n = x.nx ∧ blk = .row R.e R.size (R.len g) (R.get g)) ∨ (n ≠ x.nx ∧ n ∉ ns ∧ x.hp n = some blk) := fun n blk hn => by
     by_cases e0 : n = x.nx
     · subst e0; rw [upd_same] at hn; simp at hn; exact .inl ⟨rfl, hn.symm⟩
     · rw [upd_ne _ _ e0] at hn
       obtain ⟨k1, k2⟩ := dropAll_some hn
       exact .inr ⟨e0, k1, k2⟩
   refine ⟨val, _, ⟨upd x.β x.nx l, Z', upd (dropAll x.hp ns) x.nx (some (.row R.e R.size (R.len g) (R.get g))), x.nx + 4, ns ++ x.wl, w'⟩, he, hk, rfl, ⟨fun n blk hn => ?_, fun n blk b ln hn hb => ?_, fun n m b1 b2 b l1 l2 hn hm hb hb' => ?_, hzlt, fun n hn => ?_, hgl⟩, ?_, ⟨ev.weaken ownx, ext, fun b hb => ?_, fun b hb => ?_, Nat.le_add_right _ _, fun n hn => List.mem_append.2 (.inr hn), fun n hn hw => ?_⟩⟩
   · rcases old n blk hn with ⟨rfl, rfl⟩ | ⟨k1, k2, k3⟩
     · show RB (upd x.β x.nx l) Z' w' (upd x.β x.nx l x.nx) _
       rw [upd_same]
       cases l with
       | no => exact hrb.elim
       | virt => exact hrb
       | «at» b ln => exact hrb
     · show RB (upd x.β x.nx l) Z' w' (upd x.β x.nx l n) _
       rw [upd_ne _ _ k1]
       refine RB.mono ev hsat.calm ext (fun b ln hb => ev.same b (hok.own n blk b ln k3 hb).1 (away k2 k3 hb)) (hok.rb n blk k3)
   · rcases old n blk hn with ⟨rfl, rfl⟩ | ⟨k1, k2, k3⟩
     · have hb' : upd x.β x.nx l x.nx = .at b ln := hb
       rw [upd_same] at hb'
       obtain ⟨q1, q2, _⟩ := hl b ln hb'
       exact ⟨q1, q2, Nat.zero_le _⟩
     · have hb' : upd x.β x.nx l n = .at b ln := hb
       rw [upd_ne _ _ k1] at hb'
       obtain ⟨q1, q2, q3⟩ := hok.own n blk b ln k3 hb'
       refine ⟨Nat.lt_of_lt_of_le q1 ev.size, fun hzb => ?_, q3⟩
       rcases hz b hzb with h | h | h
       · exact q2 h
       · exact away k2 k3 hb' h
       · exact absurd q1 (Nat.not_lt.2 h)
   · have mix : ∀ {n blk b ln ln'}, n ≠ x.nx → n ∉ ns → x.hp n = some blk → upd x.β x.nx l n = .at b ln → l = .at b ln' → False := fun {n blk b ln ln'} k1 k2 k3 hb hb' => by
       rw [upd_ne _ _ k1] at hb
       rcases (hl b ln' hb').2.2 with h | h
       · exact away k2 k3 hb h
       · exact absurd (hok.own n blk b ln k3 hb).1 (Nat.not_lt.2 h)
     have hb : upd x.β x.nx l n = .at b l1 := hb
     have hb' : upd x.β x.nx l m = .at b l2 := hb'
     rcases old n b1 hn with ⟨rfl, _⟩ | ⟨k1, k2, k3⟩
     · rcases old m b2 hm with ⟨rfl, _⟩ | ⟨j1, j2, j3⟩
       · rfl
       · rw [upd_same] at hb
         exact (mix j1 j2 j3 hb' hb).elim
     · rcases old m b2 hm with ⟨rfl, _⟩ | ⟨j1, j2, j3⟩
       · rw [upd_same] at hb'
         exact (mix k1 k2 k3 hb hb').elim
       · rw [upd_ne _ _ k1] at hb
         rw [upd_ne _ _ j1] at hb'
         exact hok.inj n m b1 b2 b l1 l2 k3 j3 hb hb'
   · have hn : x.nx + 4 ≤ n := hn
     show upd x.β x.nx l n = .no
     rw [upd_ne _ _ (by omega)]
     exact hok.fresh n (by show x.nx ≤ n; omega)
   · show ROs w' (upd x.β x.nx l x.nx) _ _ val
     rw [upd_same]; exact hv
   · obtain ⟨n, blk, ln, hn, hb⟩ := hb
     rcases old n blk hn with ⟨rfl, _⟩ | ⟨k1, k2, k3⟩
     · have hb : upd x.β x.nx l x.nx = .at b ln := hb
       rw [upd_same] at hb
       rcases (hl b ln hb).2.2 with h | h
       · exact .inl (ownx b h)
       · exact .inr h
     · have hb : upd x.β x.nx l n = .at b ln := hb
       rw [upd_ne _ _ k1] at hb
       exact .inl ⟨n, blk, ln, k3, hb⟩
   · rcases hz b hb with h | h | h
     · exact .inl h
     · exact .inr (.inl (ownx b h))
     · exact .inr (.inr h)
   · simp only [List.mem_append, not_or] at hw
     show upd (dropAll x.hp ns) x.nx _ n = x.hp n
     rw [upd_ne _ _ (by omega), dropAll_get hw.1]
 · exact h.elim
end
end Go.Sx
namespace Go.Sx
section
variable {P : Program} {E : Env} {β β' : Nat → Loc} {Z : Nat → Prop} {hp : Hp} {w : World} {r : Nat → Nat}
theorem renCV_ok (h : ∀ m, β m ≠ .no → β' (r m) = β m) : ∀ {x : CV} {v : Value}, RC β Z w x v → RC β' Z w (renCV r x) v := by
 intro x
 have at_ : ∀ {n b ln}, β n = .at b ln → β' (r n) = .at b ln := fun {n b ln} e => by rw [h n (by rw [e]; simp), e]
 induction x with
 | ptr n off => rintro v ⟨b, ln, hb, rfl⟩; exact ⟨b, ln, at_ hb, rfl⟩
 | ep n size i off => rintro v ⟨b, ln, hb, rfl, hi⟩; exact ⟨b, ln, at_ hb, rfl, hi⟩
 | ax n off i sz len fo => rintro v ⟨b, ln, hb, rfl, hi⟩; exact ⟨b, ln, at_ hb, rfl, hi⟩
 | mp n => rintro v ⟨b, ln, hb, rfl⟩; exact ⟨b, ln, at_ hb, rfl⟩
 | yl n => rintro v ⟨b, ln, hb, rfl⟩; exact ⟨b, ln, at_ hb, rfl⟩
 | os n size len =>
   intro v hv
   have hv' : ROs w (β n) size len v := hv
   show ROs w (β' (r n)) size len v
   rw [h n (by intro e; rw [e] at hv'; exact hv')]
   exact hv'
 | fn f sh first nc cap ih1 ih2 =>
   rintro v ⟨fs, cs, rfl, h1, h2, h3, h4⟩
   refine ⟨fs, cs, rfl, h1, h2, fun i hi => ?_, fun i s hs => ?_⟩
   · obtain ⟨u, hu, hr⟩ := h3 i hi
     exact ⟨u, hu, ih2 i hr⟩
   · obtain ⟨u, hu, hr⟩ := h4 i s hs
     refine ⟨u, hu, ?_⟩
     cases s with
     | none => exact ih1 i 0 hr
     | some n =>
       obtain ⟨xs, rfl, hx, hy⟩ := hr
       exact ⟨xs, rfl, hx, fun j hj => let ⟨y, hy1, hy2⟩ := hy j hj; ⟨y, hy1, ih1 i j hy2⟩⟩
 | ip n get => intro v hv; exact hv
 | vs size len get => intro v hv; exact hv
 | vx size len get => intro v hv; exact hv
 | _ => intro v hv; exact hv
theorem renTV_ok (h : ∀ m, β m ≠ .no → β' (r m) = β m) {x : TV} {v : Value} (hv : RT β Z w x v) : RT β' Z w (renTV r x) v := by
 cases x with
 | c x => exact renCV_ok h hv
 | a n get =>
   obtain ⟨cs, rfl, h1, h2⟩ := hv
   exact ⟨cs, rfl, h1, fun j hj => let ⟨u, hu, hr⟩ := h2 j hj; ⟨u, hu, renCV_ok h hr⟩⟩
theorem renAV_ok (h : ∀ m, β m ≠ .no → β' (r m) = β m) {x : AV} {v : Value} (hv : RA β Z w x v) : RA β' Z w (renAV r x) v := by
 cases x with
 | any => trivial
 | t x => exact renTV_ok h hv
 | tup l =>
   obtain ⟨vs, rfl, h1, h2⟩ := hv
   refine ⟨vs, rfl, by simp [h1], fun i x hx => ?_⟩
   rw [List.getElem?_map] at hx
   cases hy : l[i]? with
   | none => rw [hy] at hx; cases hx
   | some y =>
     rw [hy] at hx
     simp only [Option.map_some, Option.some.injEq] at hx
     subst hx
     obtain ⟨u, hu, hr⟩ := h2 i y hy
     exact ⟨u, hu, renTV_ok h hr⟩
theorem renBlk_ok (h : ∀ m, β m ≠ .no → β' (r m) = β m) {l : Loc} {b : Blk} (hv : RB β Z w l b) : RB β' Z w l (renBlk r b) := by
 cases l with
 | no => cases b <;> exact hv.elim
 | virt => cases b <;> first | exact hv | exact hv.elim
 | «at» k ln =>
   cases b with
   | box n get =>
     obtain ⟨cs, e, h1, h2, h3⟩ := hv
     exact ⟨cs, e, h1, h2, fun j hj => let ⟨u, hu, hr⟩ := h3 j hj; ⟨u, hu, renCV_ok h hr⟩⟩
   | row => exact hv
   | mp => exact hv
   | mpI => exact hv
   | mq => exact hv
   | lp fid sz tm ps asg body busy pend =>
     obtain ⟨q, h1, h2, h3, h4⟩ := hv
     exact ⟨q, h1, h2, fun t => renAV_ok h (h3 t), h4⟩
theorem canonHp_some : ∀ {l : List (RW × Blk)} {m : Nat}, m < lenR l → ∃ b, canonHp l m = some b
 | [], m, h => absurd h (Nat.not_lt_zero m)
 | (_, b) :: l, 0, _ => ⟨b, rfl⟩
 | _ :: l, m + 1, h => canonHp_some (l := l) (by simpa [lenR] using h)
theorem putBlks_get {ns : List Nat} : ∀ {l : List Blk} {n : Nat} {blk : Blk}, putBlks r ns l hp n = some blk → (∃ m b, nthN ns m = some n ∧ canonB l m = some b ∧ blk = renBlk r b) ∨ ((∀ m, m < lenB l → nthN ns m ≠ some n) ∧ hp n = some blk) := by
 induction ns with
 | nil => intro l n blk h; exact .inr ⟨fun m _ e => (by cases e), (by cases l <;> exact h)⟩
 | cons k ns ih =>
   intro l n blk h
   cases l with
   | nil => exact .inr ⟨fun m hm => absurd hm (Nat.not_lt_zero m), h⟩
   | cons b l =>
     have h : upd (putBlks r ns l hp) k (some (renBlk r b)) n = some blk := h
     by_cases e : n = k
     · subst e
       rw [upd_same] at h
       injection h with h
       exact .inl ⟨0, b, rfl, rfl, h.symm⟩
     · rw [upd_ne _ _ e] at h
       rcases ih h with ⟨m, b', h1, h2, h3⟩ | ⟨h1, h2⟩
       · exact .inl ⟨m + 1, b', h1, h2, h3⟩
       · refine .inr ⟨fun m hm => ?_, h2⟩
         cases m with
         | zero => intro e2; simp only [nthN, Option.some.injEq] at e2; exact e e2.symm
         | succ m => exact h1 m (by simp [lenB] at hm; omega)
theorem putBlks_frame {ns : List Nat} : ∀ {l : List Blk} {n : Nat}, n ∉ ns → putBlks r ns l hp n = hp n := by
 induction ns with
 | nil => intro l n _; cases l <;> rfl
 | cons k ns ih =>
   intro l n hn
   simp only [List.mem_cons, not_or] at hn
   cases l with
   | nil => rfl
   | cons b l =>
     show upd (putBlks r ns l hp) k (some (renBlk r b)) n = hp n
     rw [upd_ne _ _ hn.1, ih hn.2]
theorem canonB_some : ∀ {l : List Blk} {m : Nat}, m < lenB l → ∃ b, canonB l m = some b
 | [], m, h => absurd h (Nat.not_lt_zero m)
 | b :: l, 0, _ => ⟨b, rfl⟩
 | _ :: l, m + 1, h => canonB_some (l := l) (by simpa [lenB] using h)
theorem canonHp_lt : ∀ {l : List (RW × Blk)} {m : Nat} {b : Blk}, canonHp l m = some b → m < lenR l
 | [], _, _, h => by cases h
 | _ :: _, 0, _, _ => by simp [lenR]
 | _ :: l, m + 1, b, h => by have := canonHp_lt (l := l) (m := m) (b := b) h; simp [lenR]; omega
theorem SemK.still {f : FuncId} {R : KSpec} {g : R.γ} (hm : R.mv = none) (h : SemK P E f R g) : ∀ (Z : Nat → Prop) (β : Nat → Loc) (w : World) (vs : List Value), SatH E 0 (fun m => lenR (R.hp g) ≤ m) β Z (canonHp (R.hp g)) w → RL β Z w (R.arg g) vs →
   CallsIn Fence.wide 0 P f vs.toArray w fun e w' => ∃ val d Z', e = .returned val ∧ R.post g d ∧ lenB (R.fin g d) = lenR (R.hp g) ∧ (∀ m blk, canonB (R.fin g d) m = some blk → RB β Z' w' (β m) blk) ∧
     RA (fun _ => .no) Z' w' (resAV (R.res g d)) val ∧ Evo (Own β (canonHp (R.hp g))) Z w Z' w' ∧ (∀ b, Z' b → Z b ∨ w.heap.size ≤ b) ∧ (∀ b, Z' b → b < w'.heap.size) ∧ GlOk E Z' w' := by
 intro Z β w vs hs hr
 refine CallsIn.mono (h Z β w vs hs hr) fun e w' ⟨val, d, Z', βf, h1, h2, h3, h4, h5, h6, h7, h8, h9⟩ => ?_
 have eβ : βf = β := funext fun m => h4 m (by rw [hm]; intro e; cases e)
 subst eβ
 refine ⟨val, d, Z', h1, h2, h3, h5.rb, h7, h8, fun b hb => ?_, h5.zlt, h5.gl⟩
 rcases h9 b hb with h | ⟨m, blk, ln, k1, k2⟩ | h
 · exact .inl h
 · obtain ⟨c, hc⟩ := canonB_some (l := R.fin g d) (m := m) (by rw [h3]; exact canonHp_lt k1)
   exact absurd hb (h5.own m c b ln hc k2).2.1
 · exact .inr h
theorem setNth_len : ∀ {l : List Nat} {k x : Nat}, (setNth l k x).length = l.length
 | [], _, _ => rfl
 | _ :: _, 0, _ => rfl
 | _ :: l, k + 1, x => by simp [setNth, setNth_len (l := l)]
theorem setNth_at : ∀ {l : List Nat} {k x : Nat}, k < l.length → nthN (setNth l k x) k = some x
 | [], _, _, h => by simp at h
 | _ :: _, 0, _, _ => rfl
 | _ :: l, k + 1, x, h => setNth_at (l := l) (by simpa using h)
theorem setNth_ne : ∀ {l : List Nat} {k m x : Nat}, m ≠ k → nthN (setNth l k x) m = nthN l m
 | [], _, _, _, _ => rfl
 | _ :: _, 0, 0, _, h => absurd rfl h
 | _ :: _, 0, _ + 1, _, _ => rfl
 | _ :: _, _ + 1, 0, _, _ => rfl
 | _ :: l, k + 1, m + 1, x, h => setNth_ne (l := l) (by omega)
theorem nthN_some : ∀ {l : List Nat} {m : Nat}, m < l.length → ∃ n, nthN l m = some n
 | [], _, h => by simp at h
 | n :: _, 0, _ => ⟨n, rfl⟩
 | _ :: l, m + 1, h => nthN_some (l := l) (by simpa using h)
theorem mem_nthN : ∀ {l : List Nat} {n : Nat}, n ∈ l → ∃ m, m < l.length ∧ nthN l m = some n
 | k :: l, n, h => by
   rcases List.mem_cons.1 h with rfl | h
   · exact ⟨0, by simp, rfl⟩
   · obtain ⟨m, h1, h2⟩ := mem_nthN h
     exact ⟨m + 1, by simp; omega, h2⟩
theorem mvHp_some {q : Option Nat} {ns : List Nat} {n : Nat} {blk : Blk} (h : mvHp q ns hp n = some blk) : hp n = some blk := by
 cases q with
 | none => exact h
 | some k =>
   cases e : nthN ns k with
   | none =>
     have : mvHp (some k) ns hp = hp := by unfold mvHp; simp only [e]
     rw [this] at h; exact h
   | some m =>
     have : mvHp (some k) ns hp = upd hp m none := by unfold mvHp; simp only [e]
     rw [this] at h
     by_cases c : n = m
     · subst c; rw [upd_same] at h; cases h
     · rw [upd_ne _ _ c] at h; exact h
theorem mvHp_frame {q : Option Nat} {ns : List Nat} {n : Nat} (hn : n ∉ ns) : mvHp q ns hp n = hp n := by
 cases q with
 | none => rfl
 | some k =>
   cases e : nthN ns k with
   | none =>
     have : mvHp (some k) ns hp = hp := by unfold mvHp; simp only [e]
     rw [this]
   | some m =>
     have : mvHp (some k) ns hp = upd hp m none := by unfold mvHp; simp only [e]
     rw [this, upd_ne]
     rintro rfl
     exact hn (nthN_mem e)
theorem mvHp_at {k : Nat} {ns : List Nat} {n : Nat} (e : nthN ns k = some n) : mvHp (some k) ns hp n = none := by
 have : mvHp (some k) ns hp = upd hp n none := by unfold mvHp; simp only [e]
 rw [this, upd_same]
theorem kept_ok {f : FuncId} {R : KSpec} (hR : ∀ g, R.ok g → SemK P E f R g) {args : List TV} {x : HS} {K : AV → Hp → Nat → List Nat → Prop} (h : keptCall R args x.hp x.nx x.wl K) (hok : x.ok E) {vs : List Value} (hr : RL x.β x.Z x.w args vs) :
   CallsIn Fence.wide 0 P f vs.toArray x.w (CallPost E x K) := by
 obtain ⟨g, hg, h⟩ := h
 split at h
 · rename_i ns hns
   obtain ⟨hap, htv, hbl, hk⟩ := h
   have hap := chk_iff.1 hap
   obtain ⟨hlen, hget⟩ := recBlks_get hbl
   let βc : Nat → Loc := fun m => match nthN ns m with | some n => x.β n | none => .no
   have hρ : Named (recSrc ns) x.β βc := by
     refine ⟨fun m n e => ?_, fun m e => ?_⟩
     · unfold recSrc at e
       show (match nthN ns m with | some n => x.β n | none => .no) = x.β n
       cases hn : nthN ns m with
       | none => rw [hn] at e; cases e
       | some k => rw [hn] at e; injection e with e; subst e; rfl
     · unfold recSrc at e
       split at e <;> cases e
   have βc_of : ∀ {m n}, nthN ns m = some n → βc m = x.β n := fun {m n} e => by show (match nthN ns m with | some n => x.β n | none => .no) = _; rw [e]
   have hren : ∀ m, βc m ≠ .no → x.β (nameAt ns m) = βc m := fun m hm => by
     show x.β (match nthN ns m with | some n => n | none => 0) = βc m
     cases hn : nthN ns m with
     | none => exact absurd (show (match nthN ns m with | some n => x.β n | none => .no) = .no by rw [hn]) hm
     | some n => exact (βc_of hn).symm
   have hsat : SatH E 0 (fun m => lenR (R.hp g) ≤ m) βc x.Z (canonHp (R.hp g)) x.w := by
     refine ⟨fun m blk hm => ?_, fun m blk b ln hm hb => ?_, fun m m' b1 b2 b l1 l2 hm hm' hb hb' => ?_, hok.zlt, fun m hm => ?_, hok.gl⟩
     · obtain ⟨n, b1, e1, e2, e3⟩ := hget m blk hm
       rw [βc_of e1]
       exact fitBlk_ok hρ e3 (hok.rb n b1 e2)
     · obtain ⟨n, b1, e1, e2, e3⟩ := hget m blk hm
       rw [βc_of e1] at hb
       exact hok.own n b1 b ln e2 hb
     · obtain ⟨n, c1, e1, e2, _⟩ := hget m b1 hm
       obtain ⟨n', c1', e1', e2', _⟩ := hget m' b2 hm'
       rw [βc_of e1] at hb
       rw [βc_of e1'] at hb'
       have := hok.inj n n' c1 c1' b l1 l2 e2 e2' hb hb'
       subst this
       exact apart_inj hap e1 e1'
     · show (match nthN ns m with | some n => x.β n | none => .no) = .no
       cases hn : nthN ns m with
       | none => rfl
       | some n => have := nthN_lt hn; have hm' : lenR (R.hp g) ≤ m := hm; rw [lenR_eq] at hm'; omega
   have ownc : ∀ b, Own βc (canonHp (R.hp g)) b → ∃ n b1 ln, n ∈ ns ∧ x.hp n = some b1 ∧ x.β n = .at b ln := fun b ⟨m, blk, ln, hm, hb⟩ => by
     obtain ⟨n, b1, e1, e2, _⟩ := hget m blk hm
     rw [βc_of e1] at hb
     exact ⟨n, b1, ln, nthN_mem e1, e2, hb⟩
   have ownx : ∀ b, Own βc (canonHp (R.hp g)) b → Own x.β x.hp b := fun b hb => let ⟨n, b1, ln, _, h2, h3⟩ := ownc b hb; ⟨n, b1, ln, h2, h3⟩
   have away : ∀ {n blk b ln}, n ∉ ns → x.hp n = some blk → x.β n = .at b ln → ¬ Own βc (canonHp (R.hp g)) b := fun {n blk b ln} h1 h2 h3 hb => by
     obtain ⟨n', b1, ln', k1, k2, k3⟩ := ownc b hb
     have := hok.inj n n' blk b1 b ln ln' h2 k2 h3 k3
     subst this
     exact h1 k1
   refine CallsIn.mono (hR g hg x.Z βc x.w vs hsat (recTVs_ok hρ htv hr)) fun e w' ⟨val, d, Z', βf, he, hpost, hfl, hβf, hsf, hof, hv, ev, hz⟩ => ?_
   have hlenR : lenR (R.hp g) = ns.length := by rw [lenR_eq, ← hlen]
   let β' : Nat → Loc := fun n => match R.mv with | none => x.β n | some q => if n = x.nx then βf q else x.β n
   have xnx : x.β x.nx = .no := hok.fresh x.nx (Nat.le_refl _)
   have lt_nx : ∀ {n blk}, x.hp n = some blk → n < x.nx := fun {n blk} hn => by
     apply Nat.lt_of_not_le
     intro hle
     have hrb := hok.rb n blk hn
     rw [hok.fresh n hle] at hrb
     cases blk <;> exact hrb.elim
   have β'_old : ∀ {n}, n ≠ x.nx → β' n = x.β n := fun {n} hn => by
     show (match R.mv with | none => x.β n | some q => if n = x.nx then βf q else x.β n) = x.β n
     split
     · rfl
     · rw [if_neg hn]
   have ns_hp : ∀ {m n}, nthN ns m = some n → ∃ b1, x.hp n = some b1 := fun {m n} hm => by
     obtain ⟨c, hc⟩ := canonHp_some (l := R.hp g) (m := m) (by rw [hlenR]; exact nthN_lt hm)
     obtain ⟨n', b1, e1, e2, _⟩ := hget m c hc
     rw [hm] at e1; injection e1 with e1; subst e1
     exact ⟨b1, e2⟩
   have nsl : (mvNs R.mv x.nx ns).length = ns.length := by
     unfold mvNs; split
     · rfl
     · exact setNth_len
   have at_ : ∀ {m n}, nthN (mvNs R.mv x.nx ns) m = some n → β' n = βf m := fun {m n} hm => by
     unfold mvNs at hm
     split at hm
     · rename_i hq
       obtain ⟨b1, hb⟩ := ns_hp hm
       rw [β'_old (Nat.ne_of_lt (lt_nx hb)), hβf m (by rw [hq]; intro e; cases e)]
       exact (βc_of hm).symm
     · rename_i q hq
       by_cases c : m = q
       · subst c
         rw [setNth_at (by have := nthN_lt hm; rw [setNth_len] at this; exact this)] at hm
         injection hm with hm
         subst hm
         show (match R.mv with | none => x.β x.nx | some q => if x.nx = x.nx then βf q else x.β x.nx) = βf m
         rw [hq]; simp
       · rw [setNth_ne c] at hm
         obtain ⟨b1, hb⟩ := ns_hp hm
         rw [β'_old (Nat.ne_of_lt (lt_nx hb)), hβf m (by rw [hq]; intro e; injection e with e; exact c e.symm)]
         exact (βc_of hm).symm
   have hren : ∀ m, βf m ≠ .no → β' (nameAt (mvNs R.mv x.nx ns) m) = βf m := fun m hm => by
     have hlt : m < (mvNs R.mv x.nx ns).length := by
       apply Nat.lt_of_not_le
       intro hle
       exact hm (hsf.fresh m (by show lenR (R.hp g) ≤ m; rw [hlenR, ← nsl]; exact hle))
     obtain ⟨n, hn⟩ := nthN_some hlt
     have : nameAt (mvNs R.mv x.nx ns) m = n := by unfold nameAt; rw [hn]
     rw [this]
     exact at_ hn
   have old : ∀ n blk, putBlks (nameAt (mvNs R.mv x.nx ns)) (mvNs R.mv x.nx ns) (R.fin g d) (mvHp R.mv ns x.hp) n = some blk → (∃ m b, nthN (mvNs R.mv x.nx ns) m = some n ∧ canonB (R.fin g d) m = some b ∧ blk = renBlk (nameAt (mvNs R.mv x.nx ns)) b) ∨ (n ∉ ns ∧ x.hp n = some blk) := fun n blk hn => by
     rcases putBlks_get hn with h | ⟨h1, h2⟩
     · exact .inl h
     · refine .inr ⟨fun hm => ?_, mvHp_some h2⟩
       obtain ⟨m, k1, k2⟩ := mem_nthN hm
       have hB : m < lenB (R.fin g d) := by rw [hfl, hlenR]; exact k1
       cases hq : R.mv with
       | none => rw [hq] at h1; exact h1 m hB k2
       | some q =>
         rw [hq] at h1 h2
         by_cases c : m = q
         · subst c
           rw [mvHp_at k2] at h2; cases h2
         · exact h1 m hB (by show nthN (setNth ns q x.nx) m = some n; rw [setNth_ne c]; exact k2)
   refine ⟨val, _, ⟨β', Z', putBlks (nameAt (mvNs R.mv x.nx ns)) (mvNs R.mv x.nx ns) (R.fin g d) (mvHp R.mv ns x.hp), x.nx + 4, ns ++ x.wl, w'⟩, he, hk d hpost, rfl, ⟨fun n blk hn => ?_, fun n blk b ln hn hb => ?_, fun n m b1 b2 b l1 l2 hn hm hb hb' => ?_, hsf.zlt, fun n hn => ?_, hsf.gl⟩, ?_, ⟨ev.weaken ownx, fun n hn => ?_, fun b hb => ?_, fun b hb => ?_, Nat.le_add_right _ _, fun n hn => List.mem_append.2 (.inr hn), fun n hn hw => ?_⟩⟩
   · rcases old n blk hn with ⟨m, b, k1, k2, rfl⟩ | ⟨k2, k3⟩
     · have := renBlk_ok hren (hsf.rb m b k2)
       rw [← at_ k1] at this
       exact this
     · have hne := Nat.ne_of_lt (lt_nx k3)
       show RB β' Z' w' (β' n) blk
       rw [β'_old hne]
       refine RB.mono ev hsat.calm (β := x.β) (fun n' hn' => ?_) (fun b ln hb => ev.same b (hok.own n blk b ln k3 hb).1 (away k2 k3 hb)) (hok.rb n blk k3)
       exact β'_old fun e => hn' (by rw [e]; exact xnx)
   · rcases old n blk hn with ⟨m, c, k1, k2, _⟩ | ⟨k2, k3⟩
     · have hb : β' n = .at b ln := hb
       rw [at_ k1] at hb
       exact hsf.own m c b ln k2 hb
     · have hb : β' n = .at b ln := hb
       rw [β'_old (Nat.ne_of_lt (lt_nx k3))] at hb
       obtain ⟨q1, q2, q3⟩ := hok.own n blk b ln k3 hb
       refine ⟨Nat.lt_of_lt_of_le q1 ev.size, fun hzb => ?_, q3⟩
       rcases hz b hzb with h | h | h
       · exact q2 h
       · exact away k2 k3 hb h
       · exact absurd q1 (Nat.not_lt.2 h)
   · have hb : β' n = .at b l1 := hb
     have hb' : β' m = .at b l2 := hb'
     rcases old n b1 hn with ⟨i, c, k1, k2, _⟩ | ⟨k2, k3⟩ <;> rcases old m b2 hm with ⟨i', c', k1', k2', _⟩ | ⟨k2', k3'⟩
     · rw [at_ k1] at hb
       rw [at_ k1'] at hb'
       have := hsf.inj i i' c c' b l1 l2 k2 k2' hb hb'
       subst this
       rw [k1] at k1'; injection k1'
     · rw [at_ k1] at hb
       rw [β'_old (Nat.ne_of_lt (lt_nx k3'))] at hb'
       rcases hof b ⟨i, c, l1, k2, hb⟩ with h | h
       · exact absurd h (away k2' k3' hb')
       · exact absurd (hok.own m b2 b l2 k3' hb').1 (Nat.not_lt.2 h)
     · rw [at_ k1'] at hb'
       rw [β'_old (Nat.ne_of_lt (lt_nx k3))] at hb
       rcases hof b ⟨i', c', l2, k2', hb'⟩ with h | h
       · exact absurd h (away k2 k3 hb)
       · exact absurd (hok.own n b1 b l1 k3 hb).1 (Nat.not_lt.2 h)
     · rw [β'_old (Nat.ne_of_lt (lt_nx k3))] at hb
       rw [β'_old (Nat.ne_of_lt (lt_nx k3'))] at hb'
       exact hok.inj n m b1 b2 b l1 l2 k3 k3' hb hb'
   · have hn : x.nx + 4 ≤ n := hn
     show β' n = .no
     rw [β'_old (by omega)]
     exact hok.fresh n (by show x.nx ≤ n; omega)
   · exact RA.mono (Evo.refl (fun _ => False) Z' w') (fun b hb => ⟨hsf.zlt b hb, fun h => h⟩) (fun n hn => absurd rfl hn) hv
   · exact β'_old fun e => hn (by rw [e]; exact xnx)
   · obtain ⟨n, blk, ln, hn, hb⟩ := hb
     have hb : β' n = .at b ln := hb
     rcases old n blk hn with ⟨m, c, k1, k2, _⟩ | ⟨k2, k3⟩
     · rw [at_ k1] at hb
       rcases hof b ⟨m, c, ln, k2, hb⟩ with h | h
       · exact .inl (ownx b h)
       · exact .inr h
     · rw [β'_old (Nat.ne_of_lt (lt_nx k3))] at hb
       exact .inl ⟨n, blk, ln, k3, hb⟩
   · rcases hz b hb with h | h | h
     · exact .inl h
     · exact .inr (.inl (ownx b h))
     · exact .inr (.inr h)
   · simp only [List.mem_append, not_or] at hw
     have hn : n < x.nx := hn
     have nin : n ∉ mvNs R.mv x.nx ns := by
       unfold mvNs
       split
       · exact hw.1
       · rename_i q _
         intro hm
         obtain ⟨m, k1, k2⟩ := mem_nthN hm
         by_cases c : m = q
         · subst c
           rw [setNth_len] at k1
           rw [setNth_at k1] at k2
           injection k2 with k2
           omega
         · rw [setNth_ne c] at k2
           exact hw.1 (nthN_mem k2)
     show putBlks _ _ _ _ n = x.hp n
     rw [putBlks_frame nin, mvHp_frame hw.1]
 · exact h.elim
theorem canonB_map : ∀ {l : List (RW × Blk)} {m : Nat}, canonB (l.map Prod.snd) m = canonHp l m
 | [], _ => rfl
 | (_, b) :: l, 0 => rfl
 | _ :: l, m + 1 => canonB_map (l := l)
theorem idxN_ok : ∀ {ns : List Nat} {k n i : Nat}, idxN ns k n = some i → k ≤ i ∧ nthN ns (i - k) = some n
 | [], _, _, _, h => by cases h
 | a :: l, k, n, i, h => by
   simp only [idxN] at h
   split at h
   · rename_i e
     injection h with h
     subst h
     rw [Nat.eq_of_beq_eq_true e, Nat.sub_self]
     exact ⟨Nat.le_refl _, rfl⟩
   · obtain ⟨h1, h2⟩ := idxN_ok h
     refine ⟨by omega, ?_⟩
     rw [show i - k = (i - (k + 1)) + 1 by omega]
     exact h2
theorem backBlks_get {ρ : Nat → Src} : ∀ {ns : List Nat} {l : List (RW × Blk)} {m n : Nat}, backBlks ρ hp ns l → nthN ns m = some n → ∃ c b1, canonHp l m = some c ∧ hp n = some b1 ∧ fitBlk ρ c b1
 | [], _, _, _, _, h => by cases h
 | a :: ns, [], _, _, h, _ => h.elim
 | a :: ns, (r, b) :: l, 0, n, h, hm => by
   simp only [nthN, Option.some.injEq] at hm
   subst hm
   obtain ⟨h1, _⟩ := h
   split at h1
   · rename_i b1 hb1; exact ⟨b, b1, rfl, hb1, h1⟩
   · exact h1.elim
 | a :: ns, (r, b) :: l, m + 1, n, h, hm => backBlks_get (ns := ns) (l := l) h.2 hm
theorem nth_of_mem : ∀ {l : List Nat} {n : Nat}, n ∈ l → ∃ m, nthN l m = some n
 | k :: l, n, h => by
   rcases List.mem_cons.1 h with rfl | h
   · exact ⟨0, rfl⟩
   · obtain ⟨m, h2⟩ := nth_of_mem h
     exact ⟨m + 1, h2⟩
theorem even_core {f : FuncId} {R : ESpec} (hR : ∀ g, R.ok g → SemK P E f R.toK g) {args : List TV} {Fr : Nat → Prop} {hpS : Hp} {K : AV → Prop} (h : evenPre R args hpS K) (hok : SatH E 0 Fr β Z hp w) (hsub : ∀ n blk, hpS n = some blk → hp n = some blk) {vs : List Value} (hr : RL β Z w args vs) :
   CallsIn Fence.wide 0 P f vs.toArray w (fun e w' => ∃ val v Z', e = .returned val ∧ K v ∧ RA β Z' w' v val ∧ Left E 0 Fr β Z hp w β Z' hp w') := by
 obtain ⟨g, hg, h⟩ := h
 split at h
 · rename_i ns hns
   obtain ⟨hap, htv, hbl, hback, hk⟩ := h
   have hap := chk_iff.1 hap
   obtain ⟨hlen, hget⟩ := recBlks_get hbl
   let βc : Nat → Loc := fun m => match nthN ns m with | some n => β n | none => .no
   have βc_of : ∀ {m n}, nthN ns m = some n → βc m = β n := fun {m n} e => by show (match nthN ns m with | some n => β n | none => .no) = _; rw [e]
   have hρ : Named (recSrc ns) β βc := by
     refine ⟨fun m n e => ?_, fun m e => ?_⟩
     · unfold recSrc at e
       cases hn : nthN ns m with
       | none => rw [hn] at e; cases e
       | some k => rw [hn] at e; injection e with e; subst e; exact βc_of hn
     · unfold recSrc at e
       split at e <;> cases e
   have hρb : Named (backSrc ns) βc β := by
     refine ⟨fun n i e => ?_, fun m e => ?_⟩
     · unfold backSrc at e
       split at e
       · rename_i j hj
         injection e with e
         subst e
         have := (idxN_ok hj).2
         rw [Nat.sub_zero] at this
         exact (βc_of this).symm
       · cases e
     · unfold backSrc at e
       split at e <;> cases e
   have hsat : SatH E 0 (fun m => lenR (R.hp g) ≤ m) βc Z (canonHp (R.hp g)) w := by
     refine ⟨fun m blk hm => ?_, fun m blk b ln hm hb => ?_, fun m m' b1 b2 b l1 l2 hm hm' hb hb' => ?_, hok.zlt, fun m hm => ?_, hok.gl⟩
     · obtain ⟨n, b1, e1, e2, e3⟩ := hget m blk hm
       rw [βc_of e1]
       exact fitBlk_ok hρ e3 (hok.rb n b1 (hsub n b1 e2))
     · obtain ⟨n, b1, e1, e2, e3⟩ := hget m blk hm
       rw [βc_of e1] at hb
       exact hok.own n b1 b ln (hsub n b1 e2) hb
     · obtain ⟨n, c1, e1, e2, _⟩ := hget m b1 hm
       obtain ⟨n', c1', e1', e2', _⟩ := hget m' b2 hm'
       rw [βc_of e1] at hb
       rw [βc_of e1'] at hb'
       have := hok.inj n n' c1 c1' b l1 l2 (hsub _ _ e2) (hsub _ _ e2') hb hb'
       subst this
       exact apart_inj hap e1 e1'
     · show (match nthN ns m with | some n => β n | none => .no) = .no
       cases hn : nthN ns m with
       | none => rfl
       | some n => have := nthN_lt hn; have hm' : lenR (R.hp g) ≤ m := hm; rw [lenR_eq] at hm'; omega
   have ownc : ∀ b, Own βc (canonHp (R.hp g)) b → ∃ n b1 ln, n ∈ ns ∧ hp n = some b1 ∧ β n = .at b ln := fun b ⟨m, blk, ln, hm, hb⟩ => by
     obtain ⟨n, b1, e1, e2, _⟩ := hget m blk hm
     rw [βc_of e1] at hb
     exact ⟨n, b1, ln, nthN_mem e1, hsub _ _ e2, hb⟩
   have ownx : ∀ b, Own βc (canonHp (R.hp g)) b → Own β hp b := fun b hb => let ⟨n, b1, ln, _, h2, h3⟩ := ownc b hb; ⟨n, b1, ln, h2, h3⟩
   have away : ∀ {n blk b ln}, n ∉ ns → hp n = some blk → β n = .at b ln → ¬ Own βc (canonHp (R.hp g)) b := fun {n blk b ln} h1 h2 h3 hb => by
     obtain ⟨n', b1, ln', k1, k2, k3⟩ := ownc b hb
     have := hok.inj n n' blk b1 b ln ln' h2 k2 h3 k3
     subst this
     exact h1 k1
   refine CallsIn.mono (SemK.still rfl (hR g hg) Z βc w vs hsat (recTVs_ok hρ htv hr)) fun e w' ⟨val, d, Z', he, _, hfl, hfin, hv, ev, hz, hzlt, hgl⟩ => ?_
   have ev : Evo (Own βc (canonHp (R.hp g))) Z w Z' w' := ev
   refine ⟨val, _, Z', he, hk, RA.mono (Evo.refl (fun _ => False) Z' w') (fun b hb => ⟨hzlt b hb, fun h => h⟩) (fun n hn => absurd rfl hn) hv, ⟨⟨fun n blk hn => ?_, fun n blk b ln hn hb => ?_, hok.inj, hzlt, hok.fresh, hgl⟩, ev.weaken ownx, Ext.refl _, fun b hb => .inl hb, fun b hb => (hz b hb).imp id .inr⟩⟩
   · by_cases hmem : n ∈ ns
     · obtain ⟨m, hm⟩ := nth_of_mem hmem
       obtain ⟨c, b1, k1, k2, k3⟩ := backBlks_get hback hm
       have := hsub n b1 k2
       rw [hn] at this
       injection this with this
       subst this
       have hc := hfin m c (by show canonB ((R.hp g).map Prod.snd) m = some c; rw [canonB_map]; exact k1)
       rw [βc_of hm] at hc
       exact fitBlk_ok hρb k3 hc
     · exact RB.mono ev hsat.calm (Ext.refl _) (fun b ln hb => ev.same b (hok.own n blk b ln hn hb).1 (away hmem hn hb)) (hok.rb n blk hn)
   · obtain ⟨q1, q2, q3⟩ := hok.own n blk b ln hn hb
     refine ⟨Nat.lt_of_lt_of_le q1 ev.size, fun hzb => ?_, q3⟩
     rcases hz b hzb with h | h
     · exact q2 h
     · exact absurd q1 (Nat.not_lt.2 h)
 · exact h.elim
theorem even_ok {f : FuncId} {R : ESpec} (hR : ∀ g, R.ok g → SemK P E f R.toK g) {args : List TV} {x : HS} {K : AV → Hp → Nat → List Nat → Prop} (h : evenPre R args x.hp (fun v => K v x.hp (x.nx + 4) x.wl)) (hok : x.ok E) {vs : List Value} (hr : RL x.β x.Z x.w args vs) :
   CallsIn Fence.wide 0 P f vs.toArray x.w (CallPost E x K) :=
 CallsIn.mono (even_core hR h hok (fun _ _ h => h) hr) fun e w' ⟨val, v, Z', he, hk, hv, hl⟩ =>
   ⟨val, v, ⟨x.β, Z', x.hp, x.nx + 4, x.wl, w'⟩, he, hk, rfl, hl.sat.weaken (fun n hn => by have hn : x.nx + 4 ≤ n := hn; show x.nx ≤ n; omega), hv, ⟨hl.ev, hl.ext, hl.own, hl.zown, Nat.le_add_right _ _, fun _ h => h, fun _ _ _ => rfl⟩⟩
end
end Go.Sx
