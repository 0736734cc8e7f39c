/- Texts for the law of the last part, part 5. -/
import Derived.Test.YtpigkgoooekcgaaTopEqualsP04
import Derived.Lib.ConvBytes
set_option linter.unusedSimpArgs false
set_option linter.unusedVariables false
namespace Go.Sx
section
variable {P : Program} {E : Env} {B : Nat} {Fr : Nat → Prop} {β : Nat → Loc} {Z : Nat → Prop} {hp : Nat → Option Blk} {w : World}
theorem eqGuard_flat {op : BinOp} {t : Nat} {x y : Operand} {a b : Value} (ha : a.oneCell' = true) (hn : a ≠ .nilIface) : (eqGuard op t x y a b).run P w = .ok () w := by
 unfold eqGuard
 cases a <;> first
   | (simp [Value.oneCell'] at ha; done)
   | exact absurd rfl hn
   | (cases op <;> first | rfl | (cases b <;> rfl))
theorem eqGuard_agg {op : BinOp} {t : Nat} {x y : Operand} {xs ys : Array Value} (h : P.eqGuardType P.depth t = false) : (eqGuard op t x y (.agg xs) (.agg ys)).run P w = .ok () w :=
 run_eqGuard_agg w op t x y xs ys h
theorem eqGuard_int {op : BinOp} {t : Nat} {x y : Operand} {k k' : IntKind} {a b : Int} : (eqGuard op t x y (.int k a) (.int k' b)).run P w = .ok () w := eqGuard_flat rfl (by simp)
theorem eq_run (hT : TabOk P E) {t : Nat} {ti : TI} (ht : E.ty t = some ti) {neg : Bool} {x y : AV} {u v : Value} (hx : RA β Z w x u) (hy : RA β Z w y v) {c : List Prop} {r : AV} (h : planEq E ti neg x y = .ok c r) (xo yo : Operand) :
   ∃ q, (do eqGuard (if neg then .neq else .eql) t xo yo u v; binOp (if neg then .neq else .eql) t u v : Sem Value).run P w = .ok q w ∧ RA β Z w r q := by
 obtain ⟨b, h1, h2⟩ := equal_ok hT ht hx hy h
 obtain ⟨hTt, hok⟩ := hT t ti ht
 obtain ⟨i, d, z, hF⟩ := tabTI_spec hTt
 refine ⟨_, ?_, h2⟩
 unfold planEq at h
 split at h
 · rename_i n f m g
   obtain ⟨xs, rfl, _⟩ := hx
   obtain ⟨ys, rfl, _⟩ := hy
   obtain ⟨_, h⟩ := need_ok h (by simp)
   have hgd : P.eqGuardType P.depth t = false := by
     split at h
     · rename_i fs hk
       obtain ⟨_, _, _, _, _, hgd⟩ := hF.struct hk
       exact hgd
     · rename_i l e hk
       exact (hF.array hk).2
     · simp at h
   cases neg
   · simp [eqGuard_agg hgd, binOp, h1]
   · simp [eqGuard_agg hgd, binOp, h1]
 · rename_i cx cy
   obtain ⟨b', hb', _⟩ := eqPlan_ok (β := β) (Z := Z) (w := w) h
   unfold eqCell at hb'
   split at hb'
   · split at hb'
     · rename_i k1 a k2 b0
       split at hb'
       · rename_i hkk
         obtain rfl := kindNo_inj hkk
         obtain rfl := int_of hx
         obtain rfl := int_of hy
         have e := (eqCell_ok hF (β := β) (Z := Z) (w := w) (x := .int k1 a) (y := .int k1 b0) rfl rfl (b := (a == b0)) (by
           unfold eqCell
           rename_i k hk _ _ _
           simp_all) 9999).1
         rw [show (9999 + 1) = Op.maxDepth from rfl] at e
         rw [Op.equal] at h1
         rw [h1] at e
         injection e with e _
         subst e
         cases neg
         · simp [eqGuard_int, binOp, Op.intCmp]
         · simp [eqGuard_int, binOp, Op.intCmp]; rfl
       · simp at hb'
     · simp at hb'
   · split at hb'
     · rename_i a b0
       obtain rfl : u = .string a := hx
       obtain rfl : v = .string b0 := hy
       have e := (eqCell_ok hF (β := β) (Z := Z) (w := w) (x := .str a) (y := .str b0) rfl rfl (b := (a.toList == b0.toList)) (by
         unfold eqCell
         simp_all) 9999).1
       rw [show (9999 + 1) = Op.maxDepth from rfl] at e
       rw [Op.equal] at h1
       rw [h1] at e
       injection e with e _
       subst e
       cases neg
       · simp [eqGuard_flat (a := .string a) rfl (by simp), binOp, Op.stringOp]
       · simp [eqGuard_flat (a := .string a) rfl (by simp), binOp, Op.stringOp]
     · simp at hb'
   · split at hb'
     · rename_i a b0 ha hb0
       obtain rfl := truth_ok (β := β) (Z := Z) (w := w) hx ha
       obtain rfl := truth_ok (β := β) (Z := Z) (w := w) hy hb0
       cases neg
       · simp [eqGuard_flat (a := .bool a) rfl (by simp), binOp, h1]
       · simp [eqGuard_flat (a := .bool a) rfl (by simp), binOp, h1]
     · simp at hb'
   · simp at hb'
 · simp at h
theorem cat_run {t : Nat} {xo yo : Operand} {a b : ByteArray} (h : ((a.size + b.size : Nat) : Int) ≤ 9223372036854775807) : (do eqGuard .add t xo yo (.string a) (.string b); binOp .add t (.string a) (.string b) : Sem Value).run P w = .ok (.string (a ++ b)) w := by
 have hn : ¬ ((a.size + b.size : Nat) : Int) > IntKind.i64.max := by show ¬ ((a.size + b.size : Nat) : Int) > 9223372036854775807; omega
 have h2 : (a.size : Int) + b.size ≤ 9223372036854775807 := by omega
 simp [eqGuard, binOp, Op.stringOp, hn, h2]
theorem bin_ok (hT : TabOk P E) {t : Nat} {ti : TI} (ht : E.ty t = some ti) {op : BinOp} {x y : AV} {u v : Value} (hx : RA β Z w x u) (hy : RA β Z w y v) {c : List Prop} {r : AV} (h : planBin E op ti x y = .ok c r) (hc : AllP c) (xo yo : Operand) :
   ∃ q, (do eqGuard op t xo yo u v; binOp op t u v : Sem Value).run P w = .ok q w ∧ RA β Z w r q := by
 unfold planBin at h
 split at h
 · rename_i k a k' b
   obtain rfl := int_of hx
   obtain rfl := int_of hy
   split at h
   · rename_i hkk
     obtain rfl := kindNo_inj hkk
     obtain ⟨q, h1, h2⟩ := intOp_ok (P := P) (β := β) (Z := Z) (w := w) (t := t) h hc
     exact ⟨q, by simp [eqGuard_int, h1], h2⟩
   · simp at h
 · split at h
   · exact eq_run hT ht (neg := false) hx hy h xo yo
   · exact eq_run hT ht (neg := true) hx hy h xo yo
   · unfold planCat at h
     split at h
     · rename_i s1 s2 _
       simp only [Plan.cell, Plan.ok.injEq] at h
       obtain ⟨rfl, rfl⟩ := h
       obtain rfl : u = .string s1 := hx
       obtain rfl : v = .string s2 := hy
       exact ⟨.string (s1 ++ s2), cat_run hc.1, rfl⟩
     · simp at h
   · simp at h
theorem strictC_ok {x : CV} {k : CV → AV} {u q : Value} (h : RC β Z w x u) (hk : ∀ y, RC β Z w y u → RA β Z w (k y) q) : RA β Z w (strictC x k) q := by
 unfold strictC
 split
 · rename_i b
   cases b
   · exact hk _ h
   · exact hk _ h
 · unfold strictI
   split <;> exact hk _ h
 · exact hk _ h
theorem strictL_ok {g : Nat → CV} {cs : Array Value} {q : Value} : ∀ {n : Nat} {acc : List CV} {k : List CV → AV}, (∀ j, j < n → ∃ u, cs[j]? = some u ∧ RC β Z w (g j) u) → (∀ j, j < acc.length → ∃ u, cs[n + j]? = some u ∧ RC β Z w (acc.getD j .any) u) →
   (∀ l : List CV, l.length = n + acc.length → (∀ j, j < l.length → ∃ u, cs[j]? = some u ∧ RC β Z w (l.getD j .any) u) → RA β Z w (k l) q) → RA β Z w (strictL g n acc k) q
 | 0, acc, k, _, h2, hk => hk acc (by omega) (by simpa using h2)
 | n + 1, acc, k, h1, h2, hk => by
   unfold strictL
   obtain ⟨u, e, hr⟩ := h1 n (by omega)
   refine strictC_ok hr fun y hy => strictL_ok (fun j hj => h1 j (by omega)) (fun j hj => ?_) fun l hl => hk l (by simp at hl; omega)
   cases j with
   | zero => exact ⟨u, by simpa using e, by simpa using hy⟩
   | succ j =>
     obtain ⟨u', e', hr'⟩ := h2 j (by simp at hj; omega)
     exact ⟨u', by rw [← e']; congr 1; omega, by simpa using hr'⟩
theorem strictT_ok {x : TV} {k : TV → AV} {u q : Value} (h : RT β Z w x u) (hk : ∀ y, RT β Z w y u → RA β Z w (k y) q) : RA β Z w (strictT x k) q := by
 unfold strictT
 split
 · exact strictC_ok (show RC β Z w _ u from h) fun y hy => hk _ hy
 · rename_i n g
   split
   · obtain ⟨cs, rfl, h1, h2⟩ := h
     refine strictL_ok (cs := cs) h2 (fun j hj => by simp at hj) fun l hl h3 => hk _ ⟨cs, rfl, h1, fun j hj => ?_⟩
     exact h3 j (by simp at hl; omega)
   · exact hk _ h
theorem strictTs_ok {vs : Array Value} {q : Value} : ∀ {l acc : List TV} {k : List TV → AV}, (∀ (i : Nat) (x : TV), l[i]? = some x → ∃ u, vs[acc.length + i]? = some u ∧ RT β Z w x u) → (∀ (i : Nat) (x : TV), acc[i]? = some x → ∃ u, vs[i]? = some u ∧ RT β Z w x u) →
   (∀ r : List TV, r.length = acc.length + l.length → (∀ (i : Nat) (x : TV), r[i]? = some x → ∃ u, vs[i]? = some u ∧ RT β Z w x u) → RA β Z w (k r) q) → RA β Z w (strictTs l acc k) q
 | [], acc, k, _, h2, hk => hk acc (by simp) h2
 | x :: l, acc, k, h1, h2, hk => by
   unfold strictTs
   obtain ⟨u, e, hr⟩ := h1 0 x rfl
   refine strictT_ok hr fun y hy => strictTs_ok (fun i z hz => ?_) (fun i z hz => ?_) fun r hl => hk r (by simp at hl ⊢; omega)
   · obtain ⟨u', e', hr'⟩ := h1 (i + 1) z (by simpa using hz)
     exact ⟨u', by rw [← e']; congr 1; simp; omega, hr'⟩
   · rw [List.getElem?_append] at hz
     split at hz
     · exact h2 i z hz
     · rename_i hi
       have : i = acc.length := by
         by_cases c : i = acc.length
         · exact c
         · rw [List.getElem?_eq_none (by simp; omega)] at hz; cases hz
       subst this
       simp at hz; subst hz
       exact ⟨u, by simpa using e, hy⟩
theorem concV_ok {v : AV} {q : Value} (h : RA β Z w v q) : RA β Z w (concV v) q := by
 unfold concV
 split
 · exact strictT_ok (show RT β Z w _ q from h) fun y hy => hy
 · obtain ⟨vs, rfl, h1, h2⟩ := h
   exact strictTs_ok (vs := vs) (fun i x hx => by simpa using h2 i x hx) (fun i x hx => by simp at hx) fun r hr h3 => ⟨vs, rfl, by simpa [h1] using hr.symm, h3⟩
 · trivial
theorem cP_ok {p : Plan} {c : List Prop} {r : AV} (h : cP E p = .ok c r) : ∃ r', p = .ok c r' ∧ ∀ q, RA β Z w r' q → RA β Z w r q := by
 unfold cP at h
 split at h
 · cases p with
   | ok c' v' =>
     have h : Plan.ok c' (concV v') = .ok c r := h
     injection h with e1 e2
     subst e1; subst e2
     exact ⟨_, rfl, fun q => concV_ok⟩
   | _ => simp [concP] at h
 · exact ⟨_, h, fun q hq => hq⟩
theorem okBad_cP {p : Plan} (h : okBad p) : okBad (cP E p) := by
 unfold cP
 split
 · cases p <;> first | exact h | trivial
 · exact h
theorem binC_ok (hT : TabOk P E) {t : Nat} {ti : TI} (ht : E.ty t = some ti) {op : BinOp} {x y : AV} {u v : Value} (hx : RA β Z w x u) (hy : RA β Z w y v) {c : List Prop} {r : AV} (h : planBinC E op ti x y = .ok c r) (hc : AllP c) (xo yo : Operand) :
   ∃ q, (do eqGuard op t xo yo u v; binOp op t u v : Sem Value).run P w = .ok q w ∧ RA β Z w r q := by
 obtain ⟨r', h', hr⟩ := cP_ok (β := β) (Z := Z) (w := w) h
 obtain ⟨q, h1, h2⟩ := bin_ok hT ht hx hy h' hc xo yo
 exact ⟨q, h1, hr q h2⟩
theorem args_eq {c : Call} {a : Act} : (c.args.map a.eval).toList = c.args.toList.map a.eval := by simp
theorem arr_two {α : Type} {x : Array α} {a b : α} (h : x.toList = [a, b]) : x = #[a, b] := by
 cases x; simp at h; subst h; rfl
theorem arr_one {α : Type} {x : Array α} {a : α} (h : x.toList = [a]) : x = #[a] := by
 cases x; simp at h; subst h; rfl
theorem okBad_load {ti : TI} {x : AV} : okBad (planLoad hp ti x) := by
 unfold planLoad; repeat' split
 all_goals first | trivial | exact okBad_need trivial
theorem okBad_fieldAddr {ti : TI} {f : Nat} {x : AV} : okBad (planFieldAddr E ti f x) := by
 unfold planFieldAddr Plan.cell; repeat' split
 all_goals first | trivial | exact okBad_need trivial
theorem okBad_field {ti : TI} {f : Nat} {x : AV} : okBad (planField E ti f x) := by
 unfold planField; repeat' split
 all_goals first | trivial | exact okBad_need trivial
theorem okBad_indexAddr {ti : TI} {x y : AV} : okBad (planIndexAddr E ti x y) := by
 unfold planIndexAddr Plan.cell; repeat' split
 all_goals first | trivial | exact okBad_need trivial
theorem okBad_index {ti : TI} {x y : AV} : okBad (planIndex E ti x y) := by
 unfold planIndex Plan.cell; repeat' split
 all_goals first | trivial | exact okBad_need trivial
theorem okBad_eqPlan {b : Bool} {o : Option Bool} : okBad (eqPlan b o) := by
 unfold eqPlan Plan.cell; split <;> trivial
theorem okBad_eq {ti : TI} {neg : Bool} {x y : AV} : okBad (planEq E ti neg x y) := by
 unfold planEq
 split
 · refine okBad_need ?_
   repeat' split
   all_goals first | exact okBad_eqPlan | trivial | exact okBad_need okBad_eqPlan
 · exact okBad_eqPlan
 · trivial
theorem okBad_cat {x y : AV} : okBad (planCat x y) := by
 unfold planCat Plan.cell; split <;> trivial
theorem okBad_bin {ti : TI} {op : BinOp} {x y : AV} : okBad (planBin E op ti x y) := by
 unfold planBin intOp Plan.cell
 repeat' split
 all_goals first | trivial | exact okBad_eq | exact okBad_cat
theorem okBad_binC {ti : TI} {op : BinOp} {x y : AV} : okBad (planBinC E op ti x y) := okBad_cP okBad_bin
theorem okBad_un {op : UnOp} {x : AV} : okBad (planUn op x) := by
 unfold planUn Plan.cell; split <;> trivial
theorem okBad_conv {ti : TI} {x : AV} : okBad (planConv ti x) := by
 unfold planConv Plan.cell; split <;> trivial
theorem okBad_bytes {e : TypeId} {s : ByteArray} : okBad (planBytes E e s) := by
 unfold planBytes need Plan.cell; repeat' split
 all_goals trivial
theorem okBad_convB {ti : TI} {x : AV} : okBad (planConvB E ti x) := by
 unfold planConvB; split
 · exact okBad_bytes
 · exact okBad_conv
theorem bytes_ok (h : SatH E B Fr β Z hp w) {nm : Nat} {src dst e : TypeId} {s : ByteArray} {u : TypeDesc} (hs : P.underlying src = some u) (hd : P.underlying dst = some (.slice e)) (he : P.underlying e = some (.int .u8)) :
   OpOk P E B (fun n => Fr n ∧ n ≠ nm) β Z hp w (do pure (.value (← convert src dst (.string s)))) hp (.t (.c (.vs 1 s.size (fun i _ => .int .u8 ((s.data.toList.getD i 0).toNat))))) := by
 have hsz := Lib.bytesWorld_size w e s
 have old := fun j hj => Lib.bytesWorld_at_old w e s j hj
 have ev : Evo (Own β hp) Z w (fun b => Z b ∨ b = w.heap.size) (Lib.bytesWorld w e s) := by
   refine ⟨rfl, rfl, rfl, by omega, fun b hb _ => old b hb, fun b cs e' hc => ⟨cs, ?_, rfl⟩, fun b r hr => ⟨r, ?_, rfl, rfl, rfl, rfl, rfl, rfl⟩, fun b hb => .inl hb⟩
   · rw [old b (Array.getElem?_eq_some_iff.1 hc).1]; exact hc
   · rw [old b (Array.getElem?_eq_some_iff.1 hr).1]; exact hr
 refine ⟨.value (.slice (some ⟨w.heap.size, 0, none⟩) s.size (grownCap w s.size 0 e)), .slice (some ⟨w.heap.size, 0, none⟩) s.size (grownCap w s.size 0 e), Lib.bytesWorld w e s, β, fun b => Z b ∨ b = w.heap.size, by simp [Lib.run_convert_string_bytes w src dst e s hs hd he], .inl rfl, ⟨⟨fun n blk hn => RB.mono ev h.calm (Ext.refl _) (fun b ln hb => old b (h.own n blk b ln hn hb).1) (h.rb n blk hn), fun n blk b ln hn hb => ?_, h.inj, fun b hb => ?_, fun n hn => h.fresh n hn.1, h.gl.mono ev h.calm⟩, ev, Ext.refl _, fun b hb => .inl hb, fun b hb => hb.elim .inl (fun e => .inr (.inr (by omega)))⟩, ?_⟩
 · obtain ⟨h1, h2, h3⟩ := h.own n blk b ln hn hb
   exact ⟨by omega, fun hz => hz.elim h2 (fun e => by omega), h3⟩
 · rcases hb with hb | hb
   · have := h.zlt b hb; omega
   · omega
 · refine RC.of_RP (β := β) (x := .vs 1 s.size (fun i _ => .int .u8 ((s.data.toList.getD i 0).toNat))) ⟨_, _, rfl, grownCap_ge w s.size 0 e, fun _ => ⟨w.heap.size, 0, rfl, .inr rfl, fun i hi j hj => ?_⟩⟩
   obtain rfl : j = 0 := by omega
   exact ⟨_, by rw [show 0 + (i * 1 + 0) = i by omega]; exact Lib.bytesWorld_cell w e s i hi, rfl⟩
theorem okBad_len {ti : TI} {x : AV} : okBad (planLen ti x) := by
 unfold planLen Plan.cell; split <;> trivial
theorem okBad_mm {f : Int → Int → Int} {l : Option (List TV)} : okBad (planMM f l) := by
 unfold planMM Plan.cell; repeat' split
 all_goals trivial
theorem okBad_func {tm : Nat → AV} {fn : Fn} {a b : List Operand} : okBad (planFunc E tm fn a b) := by
 unfold planFunc Plan.cell; split
 · exact okBad_need trivial
 · trivial
theorem okBad_build {ti : TI} {l : List (Nat × AV)} : okBad (planBuild E ti l) := by
 unfold planBuild; repeat' split
 all_goals first | trivial | exact okBad_need trivial
theorem okBad.get {p : Plan} (h : okBad p) {nm : Nat} {r : (Nat → Option Blk) × AV} (he : p.eff nm hp = some r) : ∃ c y, p = .ok c y ∧ r = (hp, y) := by
 cases p <;> first
   | exact h.elim
   | (simp [Plan.eff] at he; done)
   | (simp [Plan.eff] at he; exact ⟨_, _, rfl, he.symm⟩)
theorem mkOnly_slice {ti : TI} {n : Nat} {l : List (Nat × AV)} {nm : Nat} {r : (Nat → Option Blk) × AV} (he : (planBuildSlice E ti n l).eff nm hp = some r) : ∃ c b v, planBuildSlice E ti n l = .mk c b v ∧ r = (upd hp nm (some b), v nm) := by
 unfold planBuildSlice at he ⊢
 split at he
 · split at he
   · split at he
     · unfold need at he ⊢
       split at he
       · simp only [Plan.eff, Option.some.injEq] at he; exact ⟨_, _, _, rfl, he.symm⟩
       · simp [Plan.eff] at he
     · split at he
       · unfold need at he ⊢
         split at he
         · simp only [Plan.eff, Option.some.injEq] at he; exact ⟨_, _, _, rfl, he.symm⟩
         · simp [Plan.eff] at he
       · simp [Plan.eff] at he
   · simp [Plan.eff] at he
 · simp [Plan.eff] at he
theorem mkOnly_make {ti : TI} {x y : AV} {nm : Nat} {r : (Nat → Option Blk) × AV} (he : (planMakeSlice E ti x y).eff nm hp = some r) : ∃ c b v, planMakeSlice E ti x y = .mk c b v ∧ r = (upd hp nm (some b), v nm) := by
 unfold planMakeSlice at he ⊢
 split at he
 · split at he
   · split at he
     · unfold need at he ⊢
       split at he
       · simp only [Plan.eff, Option.some.injEq] at he; exact ⟨_, _, _, rfl, he.symm⟩
       · simp [Plan.eff] at he
     · simp [Plan.eff] at he
   · simp [Plan.eff] at he
 · simp [Plan.eff] at he
theorem wrOnly_store {hpS : Nat → Option Blk} {ti : TI} {x y : AV} {nm : Nat} {r : (Nat → Option Blk) × AV} (he : (planStore hpS ti x y).eff nm hp = some r) : ∃ c n b, planStore hpS ti x y = .wr c n b ∧ r = (upd hp n (some b), .any) := by
 unfold planStore at he ⊢
 split at he
 · split at he
   · unfold need at he ⊢
     split at he
     · simp only [Plan.eff, Option.some.injEq] at he; exact ⟨_, _, _, rfl, he.symm⟩
     · simp [Plan.eff] at he
   · simp [Plan.eff] at he
 · split at he
   · unfold need at he ⊢
     split at he
     · simp only [Plan.eff, Option.some.injEq] at he; exact ⟨_, _, _, rfl, he.symm⟩
     · simp [Plan.eff] at he
   · simp [Plan.eff] at he
 · split at he
   · unfold need at he ⊢
     split at he
     · simp only [Plan.eff, Option.some.injEq] at he; exact ⟨_, _, _, rfl, he.symm⟩
     · simp [Plan.eff] at he
   · unfold need at he ⊢
     split at he
     · simp only [Plan.eff, Option.some.injEq] at he; exact ⟨_, _, _, rfl, he.symm⟩
     · simp [Plan.eff] at he
   · simp [Plan.eff] at he
 · simp [Plan.eff] at he
theorem osIn_spec {get : Nat → CV} : ∀ {k j m : Nat}, osIn get k = some (j, m) → j < k ∧ ∃ s l, get j = .os m s l
 | 0, _, _, h => by simp [osIn] at h
 | k + 1, j, m, h => by
   unfold osIn at h
   split at h
   · rename_i n s l hg
     split at h
     · simp only [Option.some.injEq, Prod.mk.injEq] at h
       obtain ⟨rfl, rfl⟩ := h
       exact ⟨Nat.lt_succ_self _, s, l, hg⟩
     · simp at h
   · obtain ⟨h1, h2⟩ := osIn_spec h
     exact ⟨Nat.lt_succ_of_lt h1, h2⟩
theorem os_froze (h : SatH E B Fr β Z hp w) {n : Nat} {e : TypeId} {size len : Nat} {get : Nat → Nat → CV} (hnp : hp n = some (.row e size len get)) {s l : Nat} {u : Value} (hu : ROs w (β n) s l u) :
   RP (fun b => Z b ∨ (∃ blk ln, hp n = some blk ∧ β n = .at b ln)) w (.vs size len get) u := by
 have hrb := h.rb n _ hnp
 have hfz := h.freeze n
 cases hβ : β n with
 | no => rw [hβ] at hu; exact hu.elim
 | virt =>
   rw [hβ] at hu hrb
   obtain ⟨rfl, rfl⟩ := hu
   have h0 : len = 0 := hrb
   subst h0
   exact ⟨none, 0, rfl, Nat.le_refl _, fun h => absurd h (Nat.lt_irrefl 0)⟩
 | «at» b ln =>
   rw [hβ] at hu hrb
   obtain ⟨rfl, cap, rfl, q1, _⟩ := hu
   obtain ⟨rfl, cs, g1, g2, g3⟩ := hrb
   refine ⟨_, cap, rfl, q1, fun _ => ⟨b, 0, rfl, .inr ⟨_, _, hnp, rfl⟩, fun i hi j hj => ?_⟩⟩
   obtain ⟨u, hu, hr⟩ := g3 i hi j hj
   refine ⟨u, by rw [cell_of_heap g1, Nat.zero_add]; exact hu, ?_⟩
   have := RP.mono hfz.ev h.calm hr
   rw [hβ] at this
   exact this
theorem Left.trans {Fr1 Fr2 : Nat → Prop} {β1 β2 : Nat → Loc} {Z1 Z2 : Nat → Prop} {hp1 hp2 : Nat → Option Blk} {w1 w2 : World} (h : Left E B Fr1 β Z hp w β1 Z1 hp1 w1) (k : Left E B Fr2 β1 Z1 hp1 w1 β2 Z2 hp2 w2) : Left E B Fr2 β Z hp w β2 Z2 hp2 w2 :=
 ⟨k.sat, h.ev.trans k.ev h.own, h.ext.trans k.ext, fun b hb => (k.own b hb).elim (h.own b) (fun hle => .inr (Nat.le_trans h.ev.size hle)),
   fun b hb => (k.zown b hb).elim (h.zown b) (fun hk => hk.elim (fun ho => .inr (h.own b ho)) (fun hle => .inr (.inr (Nat.le_trans h.ev.size hle))))⟩
theorem storeF_ok {P : Program} (h : SatH E B Fr β Z hp w) {nm : Nat} {hpS : Nat → Option Blk} (hsub : ∀ n blk, hpS n = some blk → hp n = some blk) (hrbS : ∀ n blk, hpS n = some blk → RB β Z w (β n) blk) {t : Nat} {ti : TI} (hT : tabTI P t = some ti)
   {x y : AV} {vx vy : Value} (hx : RA β Z w x vx) (hy : RA β Z w y vy) {hp' : Nat → Option Blk} {v : AV} (hc : AllP (planStoreF hpS ti x y).conds) (he : (planStoreF hpS ti x y).eff nm hp = some (hp', v)) :
   OpOk P E B (fun n => Fr n ∧ n ≠ nm) β Z hp w (do Instr.storeAt t vx vy; pure .skip) hp' v := by
 have plain : ∀ x y, RA β Z w x vx → RA β Z w y vy → AllP (planStore hpS ti x y).conds → (planStore hpS ti x y).eff nm hp = some (hp', v) → OpOk P E B (fun n => Fr n ∧ n ≠ nm) β Z hp w (do Instr.storeAt t vx vy; pure .skip) hp' v := by
   intro x y hx hy hc he
   obtain ⟨c, n, b, e1, e2⟩ := wrOnly_store he
   simp only [Prod.mk.injEq] at e2
   obtain ⟨rfl, rfl⟩ := e2
   obtain ⟨bk, ln, cs, e, cs', ⟨old, hold⟩, hb, hcs, hr, hsz, hrc⟩ := store_ok hT hrbS hx hy e1 (by rw [e1] at hc; exact hc)
   have hl := h.write (hsub n old hold) hb hcs hsz hrc
   exact ⟨.skip, undef, _, β, Z, by simp [hr], .inr ⟨rfl, rfl⟩, ⟨hl.sat.weaken (fun n hn => hn.1), hl.ev, hl.ext, hl.own, hl.zown⟩, trivial⟩
 unfold planStoreF at he hc
 split at he
 · rename_i n sz i off k g
   split at he
   · rename_i j m ho
     split at he
     · rename_i e0 size len get hm
       split at he
       · rename_i c n' blk hw
         split at he
         · simp [Plan.eff] at he
         · rename_i hne
           simp only [ho, hm, hw, hne] at hc
           simp only [Plan.eff, Option.some.injEq, Prod.mk.injEq] at he
           obtain ⟨rfl, rfl⟩ := he
           have hnp := hsub m _ hm
           have hfz := h.freeze m
           obtain ⟨hjk, s, l, hgj⟩ := osIn_spec ho
           obtain ⟨cs0, rfl, hcs0, hcell⟩ := hy
           have hy1 : RA β (fun b => Z b ∨ (∃ blk ln, hp m = some blk ∧ β m = .at b ln)) w (.t (.a k (overAll k g j 1 (fun _ => .vs size len get)))) (.agg cs0) := by
             refine ⟨cs0, rfl, hcs0, fun q hq => ?_⟩
             obtain ⟨u, hu, hr⟩ := hcell q hq
             refine ⟨u, hu, ?_⟩
             rw [overAll_eq k g j 1 _ q hq (by omega)]
             split
             · obtain rfl : q = j := by omega
               rw [hgj] at hr
               exact RC.of_RP (os_froze h hnp hr)
             · exact RC.mono hfz.ev h.calm (Ext.refl β) hr
           obtain ⟨bk, ln, cs, e, cs', ⟨old, hold⟩, hb, hcs, hr, hsz, hrc⟩ := store_ok hT (fun n blk hn => RB.mono hfz.ev h.calm (Ext.refl β) (fun _ _ _ => rfl) (hrbS n blk hn)) (RA.mono hfz.ev h.calm (Ext.refl β) hx) hy1 hw hc
           have hnm : n' ≠ m := fun e => by subst e; simp at hne
           have hl := hfz.trans (hfz.sat.write (n := n') (old := old) (by rw [upd_ne _ _ hnm]; exact hsub n' old hold) hb hcs hsz hrc)
           exact ⟨.skip, undef, _, β, _, by simp [hr], .inr ⟨rfl, rfl⟩, ⟨hl.sat.weaken (fun n hn => hn.1), hl.ev, hl.ext, hl.own, hl.zown⟩, trivial⟩
       · simp [Plan.eff] at he
     · simp [Plan.eff] at he
   · rename_i ho
     simp only [ho] at hc
     exact plain _ _ hx hy hc he
 · rename_i hne
   refine plain _ _ hx hy ?_ he
   simpa using hc
theorem froze_ok {β : Nat → Loc} {Z Z' : Nat → Prop} {w : World} {n size len : Nat} {get : Nat → Nat → CV} (h1 : ∀ x v, RA β Z w x v → RA β Z' w x v) (h2 : ∀ s l v, ROs w (β n) s l v → RP Z' w (.vs size len get) v) :
   ∀ {parts : List (Nat × AV)} {vs : List (Nat × Value)}, RParts β Z w parts vs → RParts β Z' w (frozeParts n size len get parts) vs
 | [], [], _ => trivial
 | (i, x) :: l, (j, v) :: r, ⟨e, hx, hl⟩ => by
   refine ⟨e, ?_, froze_ok h1 h2 hl⟩
   unfold frozeAV
   split
   · rename_i m s l'
     split
     · rename_i hb
       obtain rfl := Nat.eq_of_beq_eq_true hb
       exact RC.of_RP (h2 s l' v hx)
     · exact h1 _ _ hx
   · exact h1 _ _ hx
 | [], _ :: _, h => h.elim
 | _ :: _, [], h => h.elim
theorem buildF_ok (hT : TabOk P E) (h : SatH E B Fr β Z hp w) {nm : Nat} {hpS : Nat → Option Blk} (hsub : ∀ n blk, hpS n = some blk → hp n = some blk) {t : Nat} {ti : TI} (ht : E.ty t = some ti)
   {parts : List (Nat × AV)} {vs : Array (Nat × Value)} (hr : RParts β Z w parts vs.toList) {hp' : Nat → Option Blk} {v : AV} (he : (planBuildF hpS E ti parts).eff nm hp = some (hp', v)) :
   OpOk P E B (fun n => Fr n ∧ n ≠ nm) β Z hp w (do pure (.value (← Instr.build t vs))) hp' v := by
 unfold planBuildF at he
 split at he
 · rename_i n hn0
   have hn0 := osF_some hn0
   split at he
   · rename_i e size len get hn
     split at he
     · rename_i c y hb
       simp only [Plan.eff, Option.some.injEq, Prod.mk.injEq] at he
       obtain ⟨rfl, rfl⟩ := he
       have hnp := hsub n _ hn
       have hrb := h.rb n _ hnp
       have hfz := h.freeze n
       obtain ⟨q, h1, h2⟩ := build_ok (β := β) (Z := fun b => Z b ∨ (∃ blk ln, hp n = some blk ∧ β n = .at b ln)) (w := w) hT ht (froze_ok (size := size) (len := len) (get := get) (fun x u hx => RA.mono hfz.ev h.calm (Ext.refl β) hx) (fun s l u hu => by
         cases hβ : β n with
         | no => rw [hβ] at hu; exact hu.elim
         | virt =>
           rw [hβ] at hu hrb
           obtain ⟨rfl, rfl⟩ := hu
           have h0 : len = 0 := hrb
           subst h0
           exact ⟨none, 0, rfl, Nat.le_refl _, fun h => absurd h (Nat.lt_irrefl 0)⟩
         | «at» b ln =>
           rw [hβ] at hu hrb
           obtain ⟨rfl, cap, rfl, q1, _⟩ := hu
           obtain ⟨rfl, cs, g1, g2, g3⟩ := hrb
           refine ⟨_, cap, rfl, q1, fun _ => ⟨b, 0, rfl, .inr ⟨_, _, hnp, rfl⟩, fun i hi j hj => ?_⟩⟩
           obtain ⟨u, hu, hr⟩ := g3 i hi j hj
           refine ⟨u, by rw [cell_of_heap g1, Nat.zero_add]; exact hu, ?_⟩
           have := RP.mono hfz.ev h.calm hr
           rw [hβ] at this
           exact this) hr) hb
       exact ⟨.value q, q, w, β, _, by simp [h1], .inl rfl, ⟨hfz.sat.weaken (fun n hn => hn.1), hfz.ev, hfz.ext, hfz.own, hfz.zown⟩, h2⟩
     · simp [Plan.eff] at he
   · simp [Plan.eff] at he
 · obtain ⟨c, y, e, e2⟩ := okBad_build.get he
   simp only [Prod.mk.injEq] at e2
   obtain ⟨rfl, rfl⟩ := e2
   exact OpOk.val h (build_ok hT ht hr e)
theorem noCallF_build {ti : TI} {l : List (Nat × AV)} : (∀ f a, planBuildF hp E ti l ≠ .call f a) ∧ ∀ n a, planBuildF hp E ti l ≠ .ycall n a := by
 have ob := fun l => okBad_build (E := E) (ti := ti) (l := l)
 unfold planBuildF
 split
 · split
   · split <;> simp
   · simp
 · have := ob l
   constructor
   · intro f a e; rw [e] at this; exact this
   · intro f a e; rw [e] at this; exact this
theorem ro_map (hg : GlOk E Z w) {tm : Nat → AV} {a : Act} (ht : ∀ t, RA β Z w (tm t) (a.tmps.getD t undef)) (o : Option Operand) : RO β Z w (o.map (evalO E tm)) (o.map a.eval) := by
 cases o with
 | none => trivial
 | some x => exact eval_ok hg ht x
theorem op_ok (hT : TabOk P E) (hM : MapsOk P E) (h : SatH E B Fr β Z hp w) (hB : B ≤ w.heap.size) {nm : Nat} (hf : Fr nm) {hpS : Nat → Option Blk} (hsub : ∀ n blk, hpS n = some blk → hp n = some blk)
   {tm : Nat → AV} {a : Act} (ht : ∀ t, RA β Z w (tm t) (a.tmps.getD t undef)) {o : Oper} {hp' : Nat → Option Blk} {v : AV}
   (hc : AllP (planOp E tm hpS o).conds) (he : (planOp E tm hpS o).eff nm hp = some (hp', v)) :
   OpOk P E B (fun n => Fr n ∧ n ≠ nm) β Z hp w (execOp a.eval o) hp' v := by
 have hrbS : ∀ n blk, hpS n = some blk → RB β Z w (β n) blk := fun n blk hn => h.rb n blk (hsub n blk hn)
 have ev := fun x => eval_ok h.gl ht x
 generalize hp0 : planOp E tm hpS o = p at hc he
 have okCase : ∀ {s : Sem Value}, (∀ c y, p = .ok c y → AllP c → ∃ u, s.run P w = .ok u w ∧ RA β Z w y u) → okBad p → OpOk P E B (fun n => Fr n ∧ n ≠ nm) β Z hp w (do pure (.value (← s))) hp' v := by
   intro s hs hob
   obtain ⟨c, y, rfl, e⟩ := hob.get he
   simp only [Prod.mk.injEq] at e
   obtain ⟨rfl, rfl⟩ := e
   exact OpOk.val h (hs c _ rfl hc)
 have ret : ∀ u : Value, ((do pure (.value (← (pure u : Sem Value))) : Sem Next)) = pure (.value u) := fun u => pure_bind _ _
 unfold planOp at hp0
 dsimp only at hp0
 split at hp0
 case h_1 x hop =>
   rw [show execOp a.eval o = pure (.value (a.eval x)) by simp [execOp, hop], ← ret]
   refine okCase (fun c y e _ => ?_) (by rw [← hp0]; trivial)
   rw [← hp0] at e; injection e with e1 e2; subst e2
   exact ⟨_, rfl, ev x⟩
 case h_2 x hop =>
   rw [show execOp a.eval o = pure (.value (a.eval x)) by simp [execOp, hop], ← ret]
   refine okCase (fun c y e _ => ?_) (by rw [← hp0]; trivial)
   rw [← hp0] at e; injection e with e1 e2; subst e2
   exact ⟨_, rfl, ev x⟩
 case h_3 c x y hop =>
   split at hp0
   · rename_i t htr
     have hb := truth_ok (ev c) htr
     rw [show execOp a.eval o = pure (.value (if t then a.eval x else a.eval y)) by simp [execOp, hop, hb, asBool], ← ret]
     refine okCase (fun c' y' e _ => ?_) (by rw [← hp0]; trivial)
     rw [← hp0] at e; injection e with e1 e2; subst e2
     refine ⟨_, rfl, ?_⟩
     cases t
     · exact ev y
     · exact ev x
   · subst hp0; simp [Plan.eff] at he
 case h_4 t hop =>
   split at hp0
   · rename_i ti hti
     unfold need at hp0
     split at hp0
     · subst hp0
       simp only [Plan.eff, Option.some.injEq, Prod.mk.injEq] at he
       obtain ⟨rfl, rfl⟩ := he
       rw [show execOp a.eval o = (do pure (.value (← Instr.alloc t true (.tuple #[])))) by simp [execOp, hop]]
       exact OpOk.new h hB hf (alloc_ok hT hti)
     · subst hp0; simp [Plan.eff] at he
   · subst hp0; simp [Plan.eff] at he
 case h_5 t x hop =>
   have hx := ev x
   split at hp0
   · rename_i y hy
     subst hp0
     simp only [Plan.eff, Option.some.injEq, Prod.mk.injEq] at he
     obtain ⟨rfl, rfl⟩ := he
     rw [hy] at hx
     rw [show execOp a.eval o = (do pure (.value (← Instr.box t (a.eval x)))) by simp [execOp, hop]]
     exact OpOk.new h hB hf (box_ok (P := P) hx)
   · subst hp0; simp [Plan.eff] at he
 case h_6 t parts hop =>
   rw [show execOp a.eval o = (do pure (.value (← Instr.build t (parts.map fun (i, x) => (i, a.eval x))))) by simp [execOp, hop]]
   split at hp0
   · rename_i ti hti
     subst hp0
     exact buildF_ok hT h hsub hti (by simpa using parts_ok h.gl ht parts.toList) he
   · subst hp0; simp [Plan.eff] at he
 case h_7 t len parts hop =>
   rw [show execOp a.eval o = (do pure (.value (← Instr.buildSlice t len (parts.map fun (i, x) => (i, a.eval x))))) by simp [execOp, hop]]
   split at hp0
   · rename_i ti hti
     subst hp0
     obtain ⟨c, b, v', e1, e2⟩ := mkOnly_slice he
     simp only [Prod.mk.injEq] at e2
     obtain ⟨rfl, rfl⟩ := e2
     exact OpOk.new h hB hf (buildSlice_ok hT hti (by simpa using parts_ok h.gl ht parts.toList) e1)
   · subst hp0; simp [Plan.eff] at he
 case h_8 t x hop =>
   rw [show execOp a.eval o = (do pure (.value (← Instr.loadAt t (a.eval x)))) by simp [execOp, hop]]
   split at hp0
   · rename_i ti hti
     refine okCase (fun c y e hc' => ?_) (by rw [← hp0]; exact okBad_cP okBad_load)
     rw [← hp0] at e
     obtain ⟨y', e', hr⟩ := cP_ok (β := β) (Z := Z) (w := w) e
     obtain ⟨q, h1, h2⟩ := load_ok (hT t ti hti).1 (hT t ti hti).2 hrbS (ev x) e' hc'
     exact ⟨q, h1, hr q h2⟩
   · subst hp0; simp [Plan.eff] at he
 case h_9 t x y hop =>
   rw [show execOp a.eval o = (do Instr.storeAt t (a.eval x) (a.eval y); pure .skip) by simp [execOp, hop]]
   split at hp0
   · rename_i ti hti
     subst hp0
     exact storeF_ok h hsub hrbS (hT t ti hti).1 (ev x) (ev y) hc he
   · subst hp0; simp [Plan.eff] at he
 case h_10 x hop =>
   have hx := ev x
   split at hp0
   · rename_i n off hy
     rw [hy] at hx
     obtain ⟨b, ln, hb, e0⟩ := hx
     rw [show execOp a.eval o = pure (.value (a.eval x)) by simp [execOp, hop, e0], ← ret]
     refine okCase (fun c y e _ => ?_) (by rw [← hp0]; trivial)
     rw [← hp0] at e; injection e with e1 e2; subst e2
     exact ⟨_, rfl, hy ▸ ev x⟩
   · rename_i n sz i off hy
     rw [hy] at hx
     obtain ⟨b, ln, hb, e0, _⟩ := hx
     rw [show execOp a.eval o = pure (.value (a.eval x)) by simp [execOp, hop, e0], ← ret]
     refine okCase (fun c y e _ => ?_) (by rw [← hp0]; trivial)
     rw [← hp0] at e; injection e with e1 e2; subst e2
     exact ⟨_, rfl, hy ▸ ev x⟩
   · rename_i n get hy
     rw [hy] at hx
     obtain ⟨b, ln, e0, _⟩ := hx
     rw [show execOp a.eval o = pure (.value (a.eval x)) by simp [execOp, hop, e0], ← ret]
     refine okCase (fun c y e _ => ?_) (by rw [← hp0]; trivial)
     rw [← hp0] at e; injection e with e1 e2; subst e2
     exact ⟨_, rfl, hy ▸ ev x⟩
   · rename_i f sh first nc cap hy
     rw [hy] at hx
     obtain ⟨fs, cs, e0, _⟩ := hx
     rw [show execOp a.eval o = pure (.value (a.eval x)) by simp [execOp, hop, e0], ← ret]
     refine okCase (fun c y e _ => ?_) (by rw [← hp0]; trivial)
     rw [← hp0] at e; injection e with e1 e2; subst e2
     exact ⟨_, rfl, hy ▸ ev x⟩
   · rename_i n hy
     rw [hy] at hx
     obtain ⟨b, ln, hb, e0⟩ := hx
     rw [show execOp a.eval o = pure (.value (a.eval x)) by simp [execOp, hop, e0], ← ret]
     refine okCase (fun c y e _ => ?_) (by rw [← hp0]; trivial)
     rw [← hp0] at e; injection e with e1 e2; subst e2
     exact ⟨_, rfl, hy ▸ ev x⟩
   · subst hp0; simp [Plan.eff] at he
 case h_11 op t x y k hop =>
   rw [show execOp a.eval o = (do pure (.value (← (do eqGuard op t x y (a.eval x) (a.eval y); binOp op t (a.eval x) (a.eval y))))) by simp [execOp, hop]]
   split at hp0
   · rename_i ti hti
     refine okCase (fun c y' e hc' => ?_) (by rw [← hp0]; exact okBad_binC)
     rw [← hp0] at e
     exact binC_ok hT hti (ev x) (ev y) e hc' x y
   · subst hp0; simp [Plan.eff] at he
 case h_12 op t x hop =>
   rw [show execOp a.eval o = (do pure (.value (← Op.unary op (a.eval x)))) by simp [execOp, hop]]
   refine okCase (fun c y' e hc' => ?_) (by rw [← hp0]; exact okBad_cP okBad_un)
   rw [← hp0] at e
   obtain ⟨y', e', hr⟩ := cP_ok (β := β) (Z := Z) (w := w) e
   obtain ⟨q, h1, h2⟩ := un_ok (ev x) e' hc'
   exact ⟨q, h1, hr q h2⟩
 case h_13 src dst x hop =>
   rw [show execOp a.eval o = (do pure (.value (← convert src dst (a.eval x)))) by simp [execOp, hop]]
   split at hp0
   · rename_i t0 ti hsrc hti
     obtain ⟨i, d, z, hF⟩ := tabTI_spec (hT src t0 hsrc).1
     unfold planConvB at hp0
     split at hp0
     · rename_i e s hk hx
       obtain ⟨i2, d2, z2, hF2⟩ := tabTI_spec (hT dst ti hti).1
       unfold planBytes at hp0
       split at hp0
       · rename_i te hte
         split at hp0
         · rename_i k hk2
           unfold need at hp0
           split at hp0
           · rename_i hb
             obtain rfl := kindNo_inj hb
             subst hp0
             simp only [Plan.cell, Plan.eff, Option.some.injEq, Prod.mk.injEq] at he
             obtain ⟨rfl, rfl⟩ := he
             have hv : a.eval x = .string s := by have := ev x; rw [hx] at this; exact this
             obtain ⟨i3, d3, z3, hF3⟩ := tabTI_spec (hT e te hte).1
             rw [hv]
             exact bytes_ok h hF.und (by rw [hF2.und, hF2.slice hk]) (by rw [hF3.und, hF3.int hk2])
           · subst hp0; simp [Plan.eff] at he
         · subst hp0; simp [Plan.eff] at he
       · subst hp0; simp [Plan.eff] at he
     · refine okCase (fun c y' e hc' => ?_) (by rw [← hp0]; exact okBad_conv)
       rw [← hp0] at e
       exact conv_ok hT hti ⟨d, hF.und⟩ (ev x) e hc'
   · subst hp0; simp [Plan.eff] at he
 case h_14 fn first cap hop =>
   rw [show execOp a.eval o = (do pure (.value (← (pure (.func fn (first.map a.eval) (cap.map a.eval)) : Sem Value)))) by simp [execOp, hop, Instr.makeFunc]]
   refine okCase (fun c y' e hc' => ?_) (by rw [← hp0]; exact okBad_func)
   rw [← hp0] at e
   exact ⟨_, rfl, func_ok h.gl ht e⟩
 case h_15 t hop =>
   rw [show execOp a.eval o = (do pure (.value (← Instr.makeMap t none))) by simp [execOp, hop]]
   split at hp0
   · rename_i T hT'
     subst hp0
     simp only [Plan.eff, Option.some.injEq, Prod.mk.injEq] at he
     obtain ⟨rfl, rfl⟩ := he
     have hrb0 : RB (upd β nm (.at w.heap.size 0)) Z (w.alloc (.map #[] 0)) (.at w.heap.size 0) (match E.stm t with | true => .mq T (fun _ => none) 0 | false => .mp T (fun _ => none)) := by
       cases E.stm t with
       | true => exact ⟨#[], heap_alloc_new w _, ⟨fun e he => by simp at he, fun ks x hx => by simp [fstM] at hx, fun i j e e' hi => by simp at hi⟩, fun e he => by simp at he, fun i j e e' hi => by simp at hi, fun e he => by simp at he⟩
       | false => exact ⟨#[], 0, heap_alloc_new w _, ⟨fun e he => by simp at he, fun ks x hx => by simp at hx, fun i j e e' hi => by simp at hi⟩⟩
     refine ⟨.value (.map (some w.heap.size)), .map (some w.heap.size), w.alloc (.map #[] 0), _, Z, ?_, .inl rfl, h.mk_obj hB hf (ln := 0) hrb0, ⟨w.heap.size, 0, upd_same _ _ _, rfl⟩⟩
     simp [Instr.makeMap, newObj]
     rfl
   · subst hp0; simp [Plan.eff] at he
 case h_16 t l c hop =>
   rw [show execOp a.eval o = (do pure (.value (← Instr.makeSlice t (a.eval l) (a.eval c)))) by simp [execOp, hop]]
   split at hp0
   · rename_i ti hti
     subst hp0
     obtain ⟨c', b, v', e1, e2⟩ := mkOnly_make he
     simp only [Prod.mk.injEq] at e2
     obtain ⟨rfl, rfl⟩ := e2
     exact OpOk.new h hB hf (makeSlice_ok hT hti (ev l) (ev c) e1 (by rw [e1] at hc; exact hc))
   · subst hp0; simp [Plan.eff] at he
 case h_17 t x lo hi mx hop =>
   rw [show execOp a.eval o = (do pure (.value (← Instr.sliceAt t (a.eval x) (lo.map a.eval) (hi.map a.eval) (mx.map a.eval)))) by simp [execOp, hop]]
   split at hp0
   · rename_i ti hti
     subst hp0
     exact slice_ok hT h hsub hti (ev x) (ro_map h.gl ht lo) (ro_map h.gl ht hi) (ro_map h.gl ht mx) hc he
   · subst hp0; simp [Plan.eff] at he
 case h_18 t x f hop =>
   rw [show execOp a.eval o = (do pure (.value (← Instr.fieldAt t (a.eval x) f))) by simp [execOp, hop]]
   split at hp0
   · rename_i ti hti
     refine okCase (fun c y' e hc' => ?_) (by rw [← hp0]; exact okBad_fieldAddr)
     rw [← hp0] at e
     exact fieldAddr_ok hT hti (ev x) e
   · subst hp0; simp [Plan.eff] at he
 case h_19 t x f hop =>
   rw [show execOp a.eval o = (do pure (.value (← Instr.field t (a.eval x) f))) by simp [execOp, hop]]
   split at hp0
   · rename_i ti hti
     refine okCase (fun c y' e hc' => ?_) (by rw [← hp0]; exact okBad_field)
     rw [← hp0] at e
     exact field_ok hT hti (ev x) e
   · subst hp0; simp [Plan.eff] at he
 case h_20 t x i hop =>
   rw [show execOp a.eval o = (do pure (.value (← Instr.indexAt t (a.eval x) (a.eval i)))) by simp [execOp, hop]]
   split at hp0
   · rename_i ti hti
     refine okCase (fun c y' e hc' => ?_) (by rw [← hp0]; exact okBad_indexAddr)
     rw [← hp0] at e
     exact indexAddr_ok hT hti (ev x) (ev i) e hc'
   · subst hp0; simp [Plan.eff] at he
 case h_21 t x i hop =>
   rw [show execOp a.eval o = (do pure (.value (← Instr.index t (a.eval x) (a.eval i)))) by simp [execOp, hop]]
   split at hp0
   · rename_i ti hti
     refine okCase (fun c y' e hc' => ?_) (by rw [← hp0]; exact okBad_cP okBad_index)
     rw [← hp0] at e
     obtain ⟨y', e', hr⟩ := cP_ok (β := β) (Z := Z) (w := w) e
     obtain ⟨q, h1, h2⟩ := index_ok hT hti (ev x) (ev i) e' hc'
     exact ⟨q, h1, hr q h2⟩
   · subst hp0; simp [Plan.eff] at he
 case h_22 x i hop =>
   have hx := ev x
   split at hp0
   · rename_i l hl
     rw [hl] at hx
     obtain ⟨vs, e0, hsz, hvs⟩ := hx
     split at hp0
     · rename_i y hy
       obtain ⟨u, hu, hr⟩ := hvs i y hy
       rw [show execOp a.eval o = (do pure (.value (← (pure u : Sem Value)))) by simp [execOp, hop, e0, Instr.extract, hu]]
       refine okCase (fun c y' e hc' => ?_) (by rw [← hp0]; trivial)
       rw [← hp0] at e; injection e with e1 e2; subst e2
       exact ⟨_, rfl, hr⟩
     · subst hp0; simp [Plan.eff] at he
   · subst hp0; simp [Plan.eff] at he
 case h_23 c hop =>
   have hex : execOp a.eval o = (do let d ← resolve a.eval c o.type; invoke d.target d.args) := by simp [execOp, hop]
   rw [hex]
   unfold planCall at hp0
   split at hp0
   · rename_i hcal
     split at hp0
     · rename_i x t hx ht'
       have e1 := arr_one hx
       have e2 := arr_one ht'
       split at hp0
       · rename_i ti hti
         rw [show (do let d ← resolve a.eval c o.type; invoke d.target d.args : Sem Next) = (do pure (.value (← Builtin.len_ #[t] o.type #[a.eval x]))) by simp [resolve, hcal, e1, e2, invoke, builtin]]
         refine okCase (fun c' y' e hc' => ?_) (by rw [← hp0]; exact okBad_len)
         rw [← hp0] at e
         exact len_ok hT hti (ev x) e
       · subst hp0; simp [Plan.eff] at he
     · subst hp0; simp [Plan.eff] at he
   · rename_i hcal
     split at hp0
     · rename_i x y t t' hx ht'
       have e1 := arr_two hx
       have e2 := arr_two ht'
       unfold need at hp0
       split at hp0
       · rename_i hbeq
         obtain rfl : t = t' := Nat.eq_of_beq_eq_true hbeq
         split at hp0
         · rename_i ti hti
           rw [show (do let d ← resolve a.eval c o.type; invoke d.target d.args : Sem Next) = (do pure (.value (← Builtin.append_ #[t, t] o.type #[a.eval x, a.eval y]))) by simp [resolve, hcal, e1, e2, invoke, builtin]]
           subst hp0
           exact append_ok hT h hB hf hsub hti (ev x) (ev y) hc he
         · subst hp0; simp [Plan.eff] at he
       · subst hp0; simp [Plan.eff] at he
     · subst hp0; simp [Plan.eff] at he
   · rename_i hcal
     rw [show (do let d ← resolve a.eval c o.type; invoke d.target d.args : Sem Next) = (do pure (.value (← Builtin.min_ c.argTypes o.type (c.args.map a.eval)))) by simp [resolve, hcal, invoke, builtin]]
     refine okCase (fun c' y' e hc' => ?_) (by rw [← hp0]; exact okBad_mm)
     rw [← hp0] at e
     obtain ⟨q0, rest, q, h1, h2, h3⟩ := mm_ok (β := β) (Z := Z) (P := P) (w := w) (g := Builtin.min2) (fun k a b => rfl) (r := (c.args.map a.eval).toList) (fun x hx => by rw [args_eq]; exact args_ok h.gl ht hx) e
     exact ⟨q, by rw [Builtin.min_, h1]; exact h2, h3⟩
   · rename_i hcal
     rw [show (do let d ← resolve a.eval c o.type; invoke d.target d.args : Sem Next) = (do pure (.value (← Builtin.max_ c.argTypes o.type (c.args.map a.eval)))) by simp [resolve, hcal, invoke, builtin]]
     refine okCase (fun c' y' e hc' => ?_) (by rw [← hp0]; exact okBad_mm)
     rw [← hp0] at e
     obtain ⟨q0, rest, q, h1, h2, h3⟩ := mm_ok (β := β) (Z := Z) (P := P) (w := w) (g := Builtin.max2) (fun k a b => rfl) (r := (c.args.map a.eval).toList) (fun x hx => by rw [args_eq]; exact args_ok h.gl ht hx) e
     exact ⟨q, by rw [Builtin.max_, h1]; exact h2, h3⟩
   · rename_i hcal
     split at hp0
     · rename_i x y t t' hx ht'
       have e1 := arr_two hx
       have e2 := arr_two ht'
       split at hp0
       · rename_i T hT0
         rw [show (do let d ← resolve a.eval c o.type; invoke d.target d.args : Sem Next) = (do pure (.value (← Builtin.delete_ #[t, t'] o.type #[a.eval x, a.eval y]))) by simp [resolve, hcal, e1, e2, invoke, builtin]]
         subst hp0
         obtain ⟨c', n, b, q1, q2⟩ := wrOnly_delete he
         simp only [Prod.mk.injEq] at q2
         obtain ⟨rfl, rfl⟩ := q2
         obtain ⟨w', hr, hset⟩ := delete_ok (t' := t') (hM t T hT0) hrbS (ev x) (ev y) q1 (by rw [q1] at hc; exact hc) o.type
         have hl := h.setMapS (hset.sub hsub)
         exact ⟨.value (.tuple #[]), .tuple #[], _, β, Z, by simp [hr], .inl rfl, ⟨hl.sat.weaken (fun n hn => hn.1), hl.ev, hl.ext, hl.own, hl.zown⟩, trivial⟩
       · subst hp0; simp [Plan.eff] at he
     · subst hp0; simp [Plan.eff] at he
   · split at hp0
     · subst hp0; simp [Plan.eff] at he
     · subst hp0; simp [Plan.eff] at he
     · subst hp0; simp [Plan.eff] at he
   · subst hp0; simp [Plan.eff] at he
 case h_24 t x k ok hop =>
   rw [show execOp a.eval o = (do pure (.value (← Instr.lookup t (a.eval x) (a.eval k) ok))) by simp [execOp, hop]]
   split at hp0
   · rename_i T hT'
     refine okCase (fun c y e hc' => ?_) (by rw [← hp0]; exact okBad_cP okBad_lookup)
     rw [← hp0] at e
     obtain ⟨y', e', hr⟩ := cP_ok (β := β) (Z := Z) (w := w) e
     obtain ⟨q, h1, h2⟩ := lookup_ok (hM t T hT') hrbS (ev x) (ev k) e' hc'
     exact ⟨q, h1, hr q h2⟩
   · subst hp0; simp [Plan.eff] at he
 case h_25 t x k y hop =>
   rw [show execOp a.eval o = (do Instr.mapUpdate t (a.eval x) (a.eval k) (a.eval y); pure .skip) by simp [execOp, hop]]
   split at hp0
   · rename_i T hT'
     subst hp0
     obtain ⟨c, n, b, e1, e2⟩ := wrOnly_upd he
     simp only [Prod.mk.injEq] at e2
     obtain ⟨rfl, rfl⟩ := e2
     obtain ⟨w', hr, hl⟩ := upd_ok (hM t T hT') h hsub (ev x) (ev k) (ev y) e1 (by rw [e1] at hc; exact hc)
     exact ⟨.skip, undef, _, β, Z, by simp [hr], .inr ⟨rfl, rfl⟩, ⟨hl.sat.weaken (fun n hn => hn.1), hl.ev, hl.ext, hl.own, hl.zown⟩, trivial⟩
   · subst hp0; simp [Plan.eff] at he
 case h_26 t x k y hop =>
   rw [show execOp a.eval o = (do Instr.mapUpdate t (a.eval x) (a.eval k) (a.eval y); pure .skip) by simp [execOp, hop]]
   split at hp0
   · rename_i T hT'
     subst hp0
     obtain ⟨c, n, b, e1, e2⟩ := wrOnly_upd he
     simp only [Prod.mk.injEq] at e2
     obtain ⟨rfl, rfl⟩ := e2
     obtain ⟨w', hr, hl⟩ := upd_ok (hM t T hT') h hsub (ev x) (ev k) (ev y) e1 (by rw [e1] at hc; exact hc)
     exact ⟨.skip, undef, _, β, Z, by simp [hr], .inr ⟨rfl, rfl⟩, ⟨hl.sat.weaken (fun n hn => hn.1), hl.ev, hl.ext, hl.own, hl.zown⟩, trivial⟩
   · subst hp0; simp [Plan.eff] at he
 case h_27 t x k hop =>
   rw [show execOp a.eval o = (do pure (.value (← Instr.mapEntry t (a.eval x) (a.eval k)))) by simp [execOp, hop]]
   split at hp0
   · rename_i T hT'
     subst hp0
     obtain ⟨c, n, b, v', e1, e2⟩ := weOnly_entry he
     simp only [Prod.mk.injEq] at e2
     obtain ⟨rfl, rfl⟩ := e2
     obtain ⟨u, w', hr, hv, hset⟩ := entry_ok (hM t T hT') hrbS (ev x) (ev k) e1 (by rw [e1] at hc; exact hc)
     have hl := h.setMapS (hset.sub hsub)
     exact ⟨.value u, u, _, β, Z, by simp [hr], .inl rfl, ⟨hl.sat.weaken (fun n hn => hn.1), hl.ev, hl.ext, hl.own, hl.zown⟩, hv _ _ _⟩
   · subst hp0; simp [Plan.eff] at he
 case h_28 t x s y hop =>
   rw [show execOp a.eval o = (do Instr.entryStore t (a.eval x) (a.eval s) (a.eval y); pure .skip) by simp [execOp, hop]]
   split at hp0
   · rename_i T hT'
     subst hp0
     obtain ⟨c, n, b, e1, e2⟩ := wrOnly_entryStore he
     simp only [Prod.mk.injEq] at e2
     obtain ⟨rfl, rfl⟩ := e2
     obtain ⟨w', hr, hset⟩ := entryStore_ok (t := t) (hM t T hT') hrbS (ev x) (ev s) (ev y) e1 (by rw [e1] at hc; exact hc)
     have hl := h.setMapS (hset.sub hsub)
     exact ⟨.skip, undef, _, β, Z, by simp [hr], .inr ⟨rfl, rfl⟩, ⟨hl.sat.weaken (fun n hn => hn.1), hl.ev, hl.ext, hl.own, hl.zown⟩, trivial⟩
   · subst hp0; simp [Plan.eff] at he
 case h_29 => subst hp0; simp [Plan.eff] at he
end
end Go.Sx
namespace Go.Sx
structure HS where
 β : Nat → Loc
 Z : Nat → Prop
 hp : Hp
 nx : Nat
 wl : List Nat
 w : World
def HS.ok (E : Env) (x : HS) : Prop := SatH E 0 (fun n => x.nx ≤ n) x.β x.Z x.hp x.w
structure Turn (x y : HS) : Prop where
 ev : Evo (Own x.β x.hp) x.Z x.w y.Z y.w
 ext : Ext x.β y.β
 own : ∀ b, Own y.β y.hp b → Own x.β x.hp b ∨ x.w.heap.size ≤ b
 zown : ∀ b, y.Z b → x.Z b ∨ Own x.β x.hp b ∨ x.w.heap.size ≤ b
 nx : x.nx ≤ y.nx
 wl : ∀ n, n ∈ x.wl → n ∈ y.wl
 frame : ∀ n, n < x.nx → n ∉ y.wl → y.hp n = x.hp n
theorem Turn.refl (x : HS) : Turn x x := ⟨Evo.refl _ _ _, Ext.refl _, fun _ h => .inl h, fun _ h => .inl h, Nat.le_refl _, fun _ h => h, fun _ _ _ => rfl⟩
theorem Turn.trans {x y z : HS} (h : Turn x y) (h' : Turn y z) : Turn x z := by
 refine ⟨h.ev.trans h'.ev h.own, h.ext.trans h'.ext, fun b hb => ?_, fun b hb => ?_, Nat.le_trans h.nx h'.nx, fun n hn => h'.wl n (h.wl n hn), fun n hn hw => ?_⟩
 · rcases h'.own b hb with h1 | h1
   · exact h.own b h1
   · exact .inr (Nat.le_trans h.ev.size h1)
 · rcases h'.zown b hb with h1 | h1 | h1
   · exact h.zown b h1
   · exact .inr (h.own b h1)
   · exact .inr (.inr (Nat.le_trans h.ev.size h1))
 · rw [h'.frame n (Nat.lt_of_lt_of_le hn h.nx) hw, h.frame n hn (fun hw' => hw (h'.wl n hw'))]
section
variable {P : Program} {E : Env} {β β' : Nat → Loc} {Z Z' : Nat → Prop} {hp : Hp} {w w' : World}
theorem Evo.zup {own : Nat → Prop} (h : ∀ b, Z b → Z' b) : Evo own Z w Z' w :=
 ⟨rfl, rfl, rfl, Nat.le_refl _, fun _ _ _ => rfl, fun _ cs _ h => ⟨cs, h, rfl⟩, fun _ r h => ⟨r, h, rfl, rfl, rfl, rfl, rfl, rfl⟩, h⟩
theorem RP.zup {x : CV} {v : Value} (hz : ∀ b, Z b → b < w.heap.size) (h : ∀ b, Z b → Z' b) (hv : RP Z w x v) : RP Z' w x v :=
 RP.mono (own := fun _ => False) (Evo.zup h) (fun b hb => ⟨hz b hb, fun h => h⟩) hv
def Zargs (β : Nat → Loc) (Z : Nat → Prop) (hp : Hp) (l : List Nat) : Nat → Prop := fun b => Z b ∨ ∃ n blk ln, n ∈ l ∧ hp n = some blk ∧ β n = .at b ln
theorem Zargs.mono {l l' : List Nat} (h : ∀ n, n ∈ l → n ∈ l') (b : Nat) (hb : Zargs β Z hp l b) : Zargs β Z hp l' b :=
 hb.elim .inl (fun ⟨n, blk, ln, h1, h2⟩ => .inr ⟨n, blk, ln, h n h1, h2⟩)
theorem Zargs.lt {Fr : Nat → Prop} {B : Nat} (h : SatH E B Fr β Z hp w) {l : List Nat} (b : Nat) (hb : Zargs β Z hp l b) : b < w.heap.size :=
 hb.elim (h.zlt b) (fun ⟨n, blk, ln, _, h2, h3⟩ => (h.own n blk b ln h2 h3).1)
theorem capPure_ok {Fr : Nat → Prop} {B : Nat} (h : SatH E B Fr β Z hp w) {hpS : Hp} (hsub : ∀ n blk, hpS n = some blk → hp n = some blk) {l : List Nat} {x y : CV} {v : Value} (hx : RC β Z w x v) (hl : ∀ n off, x = .ptr n off → n ∈ l) (hy : capPure hpS x = some y) :
   RP (Zargs β Z hp l) w y v := by
 have hzl : ∀ b, Z b → Zargs β Z hp l b := fun b hb => .inl hb
 unfold capPure at hy
 split at hy
 · rename_i n off
   split at hy
   · rename_i m get hn
     split at hy
     · rename_i hb
       injection hy with hy; subst hy
       simp only [Bool.and_eq_true] at hb
       have hle := Nat.le_of_ble_eq_true hb.1
       have hnp := hsub n _ hn
       have hrb := h.rb n _ hnp
       obtain ⟨b, ln, hβ, rfl⟩ := hx
       rw [hβ] at hrb
       obtain ⟨cs, e, g1, g2, g3⟩ := hrb
       refine ⟨b, off, rfl, .inr ⟨n, _, _, hl n off rfl, hnp, hβ⟩, fun j hj => ?_⟩
       obtain ⟨u, hu, hr⟩ := g3 (j + off) (by omega)
       refine ⟨u, by rw [cell_of_heap g1, Nat.add_comm]; exact hu, ?_⟩
       rw [shift_eq]
       exact RP.zup h.zlt hzl (RP.of_RC (allPure_get hb.2 _ (by omega)) hr)
     · simp at hy
   · simp at hy
 · split at hy
   · rename_i hpu
     injection hy with hy; subst hy
     exact RP.zup h.zlt hzl (RP.of_RC hpu hx)
   · simp at hy
theorem capsPure_ok {Fr : Nat → Prop} {B : Nat} (h : SatH E B Fr β Z hp w) {hpS : Hp} (hsub : ∀ n blk, hpS n = some blk → hp n = some blk) {l : List Nat} {cap : Nat → CV} : ∀ {n : Nat} {g : Nat → CV} {vs : Nat → Option Value},
   (∀ j, j < n → ∃ u, vs j = some u ∧ RC β Z w (cap j) u) → (∀ m, m ∈ capsOwn cap n → m ∈ l) → capsPure hpS cap n = some g → ∀ j, j < n → ∃ u, vs j = some u ∧ RP (Zargs β Z hp l) w (g j) u
 | 0, g, vs, _, _, _ => fun j hj => absurd hj (Nat.not_lt_zero _)
 | n + 1, g, vs, hv, hl, hg => by
   unfold capsPure at hg
   split at hg
   · rename_i g0 y e1 e2
     injection hg with hg; subst hg
     have ih := capsPure_ok h hsub (cap := cap) (n := n) (g := g0) (vs := vs) (fun j hj => hv j (by omega)) (fun m hm => hl m (by simp [capsOwn, hm])) e1
     intro j hj
     by_cases hjn : j = n
     · subst hjn
       simp only [if_true]
       obtain ⟨u, hu, hr⟩ := hv j (by omega)
       exact ⟨u, hu, capPure_ok h hsub hr (fun m off e => hl m (by simp [capsOwn, e])) e2⟩
     · simp only [hjn, if_false]
       exact ih j (by omega)
   · simp at hg
theorem pureCV_ok {Fr : Nat → Prop} {B : Nat} (h : SatH E B Fr β Z hp w) {hpS : Hp} (hsub : ∀ n blk, hpS n = some blk → hp n = some blk) {l : List Nat} {x y : CV} {v : Value} (hx : RC β Z w x v) (hl : ∀ n, n ∈ ownCV x → n ∈ l) (hy : pureCV hpS x = some y) :
   RC β' (Zargs β Z hp l) w y v := by
 have hzl : ∀ b, Z b → Zargs β Z hp l b := fun b hb => .inl hb
 have pure_ : ∀ {x : CV}, isPure x = true → RC β Z w x v → RC β' (Zargs β Z hp l) w x v := fun hp1 h1 => RC.of_RP (RP.zup h.zlt hzl (RP.of_RC hp1 h1))
 unfold pureCV at hy
 split at hy
 · rename_i n off
   exact RC.of_RP (capPure_ok h hsub hx (fun m off' e => by injection e with e1 e2; subst e1; exact hl _ (by simp [ownCV])) hy)
 · rename_i f sh first nc cap
   split at hy
   · rename_i hpu
     injection hy with hy; subst hy
     exact pure_ hpu hx
   · split at hy
     · rename_i g hg _
       injection hy with hy; subst hy
       obtain ⟨fs, cs, rfl, h1, h2, h3, _⟩ := hx
       have e1 : fs = #[] := by simpa using h1
       subst e1
       exact RC.of_RP (x := .fn f [] first nc g) ⟨rfl, cs, rfl, h2, capsPure_ok h hsub (vs := fun i => cs[i]?) h3 hl hg⟩
     · simp at hy
 · rename_i n sz ln0
   have hx' : ROs w (β n) sz ln0 v := hx
   split at hy
   · rename_i e size len get hn
     split at hy
     · rename_i hbeq
       obtain rfl := Nat.eq_of_beq_eq_true hbeq
       injection hy with hy; subst hy
       have hnp := hsub n _ hn
       have hrb := h.rb n _ hnp
       cases hβ : β n with
       | no => rw [hβ] at hx'; exact hx'.elim
       | virt =>
         rw [hβ] at hx' hrb
         obtain ⟨rfl, _⟩ := hx'
         have h0 : len = 0 := hrb
         subst h0
         exact ⟨none, 0, rfl, Nat.le_refl _, fun h => absurd h (Nat.lt_irrefl 0)⟩
       | «at» b ln =>
         rw [hβ] at hx' hrb
         obtain ⟨rfl, cap, rfl, q1, _⟩ := hx'
         obtain ⟨rfl, cs, g1, g2, g3⟩ := hrb
         refine ⟨some ⟨b, 0, none⟩, cap, rfl, q1, fun _ => ⟨b, 0, rfl, .inr ⟨n, _, _, hl n (by simp [ownCV]), hnp, hβ⟩, fun i hi j hj => ?_⟩⟩
         obtain ⟨u, hu, hr⟩ := g3 i hi j hj
         exact ⟨u, by rw [cell_of_heap g1, Nat.zero_add]; exact hu, RP.zup h.zlt hzl hr⟩
     · simp at hy
   · simp at hy
 · split at hy
   · rename_i hpu
     injection hy with hy; subst hy
     exact pure_ hpu hx
   · simp at hy
theorem pureGet_ok {Fr : Nat → Prop} {B : Nat} (h : SatH E B Fr β Z hp w) {hpS : Hp} (hsub : ∀ n blk, hpS n = some blk → hp n = some blk) {l : List Nat} {get : Nat → CV} : ∀ {n : Nat} {g : Nat → CV} {vs : Nat → Option Value},
   (∀ j, j < n → ∃ u, vs j = some u ∧ RC β Z w (get j) u) → (∀ m, m ∈ ownGet get n → m ∈ l) → pureGet hpS get n = some g → (∀ j, j < n → ∃ u, vs j = some u ∧ RC β' (Zargs β Z hp l) w (g j) u) ∧ ∀ j, n ≤ j → g j = get j
 | 0, g, vs, _, _, hg => by
   simp [pureGet] at hg; subst hg
   exact ⟨fun j hj => absurd hj (Nat.not_lt_zero _), fun _ _ => rfl⟩
 | n + 1, g, vs, hv, hl, hg => by
   have ih := fun {g} => pureGet_ok h hsub (get := get) (n := n) (g := g) (vs := vs) (fun j hj => hv j (by omega)) (fun m hm => hl m (by simp [ownGet, hm]))
   obtain ⟨u, hu, hr⟩ := hv n (by omega)
   unfold pureGet at hg
   split at hg
   · rename_i g0 e1 e2
     injection hg with hg; subst hg
     obtain ⟨i1, i2⟩ := ih e1
     refine ⟨fun j hj => ?_, fun j hj => i2 j (by omega)⟩
     by_cases hjn : j = n
     · subst hjn
       rw [i2 j (Nat.le_refl _)]
       exact ⟨u, hu, RC.of_RP (RP.zup h.zlt (fun b hb => .inl hb) (RP.of_RC e2 hr))⟩
     · exact i1 j (by omega)
   · rename_i g0 e1 e2
     split at hg
     · rename_i y hy
       injection hg with hg; subst hg
       obtain ⟨i1, i2⟩ := ih e1
       refine ⟨fun j hj => ?_, fun j hj => (if_neg (by omega : ¬ j = n)).trans (i2 j (by omega))⟩
       by_cases hjn : j = n
       · subst hjn
         simp only [if_true]
         exact ⟨u, hu, pureCV_ok h hsub hr (fun m hm => hl m (by simp [ownGet, hm])) hy⟩
       · simp only [hjn, if_false]
         exact i1 j (by omega)
     · simp at hg
   · simp at hg
theorem pureTV_ok {Fr : Nat → Prop} {B : Nat} (h : SatH E B Fr β Z hp w) {hpS : Hp} (hsub : ∀ n blk, hpS n = some blk → hp n = some blk) {l : List Nat} {x y : TV} {v : Value} (hx : RT β Z w x v) (hl : ∀ n, n ∈ ownTV x → n ∈ l) (hy : pureTV hpS x = some y) :
   RT β' (Zargs β Z hp l) w y v := by
 cases x with
 | c x =>
   simp only [pureTV] at hy
   split at hy
   · rename_i z hz
     injection hy with hy; subst hy
     exact pureCV_ok h hsub hx hl hz
   · simp at hy
 | a n get =>
   simp only [pureTV] at hy
   split at hy
   · rename_i g hg
     injection hy with hy; subst hy
     obtain ⟨cs, rfl, h1, h2⟩ := hx
     exact ⟨cs, rfl, h1, (pureGet_ok h hsub (vs := fun j => cs[j]?) h2 hl hg).1⟩
   · simp at hy
theorem pureTVs_ok {Fr : Nat → Prop} {B : Nat} (h : SatH E B Fr β Z hp w) {hpS : Hp} (hsub : ∀ n blk, hpS n = some blk → hp n = some blk) {l : List Nat} : ∀ {xs ys : List TV} {vs : List Value}, RL β Z w xs vs → (∀ n, n ∈ ownTVs xs → n ∈ l) → pureTVs hpS xs = some ys → RL β' (Zargs β Z hp l) w ys vs
 | [], ys, vs, hx, _, hy => by
   simp [pureTVs] at hy; subst hy
   cases vs with
   | nil => trivial
   | cons => exact hx.elim
 | x :: xs, ys, vs, hx, hl, hy => by
   cases vs with
   | nil => cases x <;> exact hx.elim
   | cons v vs =>
     simp only [pureTVs] at hy
     split at hy
     · rename_i y r h1 h2
       injection hy with hy; subst hy
       exact ⟨pureTV_ok h hsub hx.1 (fun n hn => hl n (by simp [ownTVs, hn])) h1, pureTVs_ok h hsub hx.2 (fun n hn => hl n (by simp [ownTVs, hn])) h2⟩
     · simp at hy
theorem pureGet_after {hpS : Hp} {get : Nat → CV} : ∀ {n : Nat} {g : Nat → CV}, pureGet hpS get n = some g → ∀ j, n ≤ j → g j = get j
 | 0, g, hg, j, _ => by
   simp [pureGet] at hg; subst hg; rfl
 | n + 1, g, hg, j, hj => by
   unfold pureGet at hg
   split at hg
   · rename_i g0 e1 e2
     injection hg with hg; subst hg
     exact pureGet_after e1 j (by omega)
   · rename_i g0 e1 e2
     split at hg
     · injection hg with hg; subst hg
       exact (if_neg (by omega : ¬ j = n)).trans (pureGet_after e1 j (by omega))
     · simp at hg
   · simp at hg
def Zown (β : Nat → Loc) (Z : Nat → Prop) (hp : Hp) : Nat → Prop := fun b => Z b ∨ Own β hp b
theorem Zown.lt {Fr : Nat → Prop} {B : Nat} (h : SatH E B Fr β Z hp w) (b : Nat) (hb : Zown β Z hp b) : b < w.heap.size :=
 hb.elim (h.zlt b) (fun ⟨n, blk, ln, h2, h3⟩ => (h.own n blk b ln h2 h3).1)
theorem Zargs.own {l : List Nat} (b : Nat) (hb : Zargs β Z hp l b) : Zown β Z hp b :=
 hb.imp id fun ⟨n, blk, ln, _, h2, h3⟩ => ⟨n, blk, ln, h2, h3⟩
theorem RC.zup {x : CV} {v : Value} {β1 : Nat → Loc} (hz : ∀ b, Z b → b < w.heap.size) (h : ∀ b, Z b → Z' b) (hp1 : isPure x = true) (hv : RC β1 Z w x v) : RC β' Z' w x v := RC.of_RP (RP.zup hz h (RP.of_RC hp1 hv))
theorem capPure_pure {hpS : Hp} {x y : CV} (hy : capPure hpS x = some y) : isPure y = true := by
 unfold capPure at hy
 split at hy
 · split at hy
   · split at hy
     · injection hy with hy; subst hy; rfl
     · simp at hy
   · simp at hy
 · split at hy
   · rename_i hpu
     injection hy with hy; subst hy; exact hpu
   · simp at hy
theorem capsPure_pure {hpS : Hp} {cap : Nat → CV} : ∀ {n : Nat} {g : Nat → CV}, capsPure hpS cap n = some g → ∀ j, j < n → isPure (g j) = true
 | 0, _, _, j, hj => absurd hj (Nat.not_lt_zero _)
 | n + 1, g, hg, j, hj => by
   unfold capsPure at hg
   split at hg
   · rename_i g0 y e1 e2
     injection hg with hg; subst hg
     by_cases hjn : j = n
     · subst hjn
       simp only [if_true]
       exact capPure_pure e2
     · simp only [hjn, if_false]
       exact capsPure_pure e1 j (by omega)
   · simp at hg
theorem pureCV_pure {hpS : Hp} {x y : CV} (hy : pureCV hpS x = some y) : isPure y = true := by
 unfold pureCV at hy
 split at hy
 · exact capPure_pure hy
 · split at hy
   · rename_i hpu
     injection hy with hy; subst hy; exact hpu
   · split at hy
     · rename_i g hg _
       injection hy with hy; subst hy
       simp only [isPure, Bool.and_eq_true, List.isEmpty_iff, List.all_eq_true, List.mem_range, true_and]
       exact capsPure_pure hg
     · simp at hy
 · split at hy
   · split at hy
     · injection hy with hy; subst hy; rfl
     · simp at hy
   · simp at hy
 · split at hy
   · rename_i hpu
     injection hy with hy; subst hy; exact hpu
   · simp at hy
theorem pureGet_pure {hpS : Hp} {get : Nat → CV} : ∀ {n : Nat} {g : Nat → CV}, pureGet hpS get n = some g → ∀ j, j < n → isPure (g j) = true
 | 0, _, _, j, hj => absurd hj (Nat.not_lt_zero _)
 | n + 1, g, hg, j, hj => by
   unfold pureGet at hg
   split at hg
   · rename_i g0 e1 e2
     injection hg with hg; subst hg
     by_cases hjn : j = n
     · subst hjn
       have := (pureGet_after e1) j (Nat.le_refl _)
       rw [this]; exact e2
     · exact pureGet_pure e1 j (by omega)
   · rename_i g0 e1 e2
     split at hg
     · rename_i y hy
       injection hg with hg; subst hg
       by_cases hjn : j = n
       · subst hjn
         simp only [if_true]
         exact pureCV_pure hy
       · simp only [hjn, if_false]
         exact pureGet_pure e1 j (by omega)
     · simp at hg
   · simp at hg
theorem pureCVD_ok {Fr : Nat → Prop} {B : Nat} (h : SatH E B Fr β Z hp w) {hpS : Hp} (hsub : ∀ n blk, hpS n = some blk → hp n = some blk) {Z1 : Nat → Prop} (hz : ∀ b, Z b → Z1 b) {x y : CV} (hn : ∀ n, n ∈ ownCVD hpS x → ∀ blk b ln, hp n = some blk → β n = .at b ln → Z1 b) {v : Value} (hx : RC β Z w x v) (hy : pureCVD hpS x = some y) :
   RC β' Z1 w y v := by
 have up : ∀ l : List Nat, (∀ n, n ∈ l → n ∈ ownCVD hpS x) → ∀ b, Zargs β Z hp l b → Z1 b := fun l hl b hb => hb.elim (hz b) fun ⟨n, blk, ln, h1, h2, h3⟩ => hn n (hl n h1) blk b ln h2 h3
 have first : ∀ n, n ∈ ownCV x → n ∈ ownCVD hpS x := fun n hm => by
   cases x <;> first
     | exact hm
     | (simp [ownCV] at hm
        subst hm
        simp [ownCVD])
 have old : pureCV hpS x = some y → RC β' Z1 w y v := fun h2 =>
   RC.zup (Zargs.lt h) (up _ first) (pureCV_pure h2) (pureCV_ok (β' := β') (l := ownCV x) h hsub hx (fun _ h => h) h2)
 unfold pureCVD at hy
 split at hy
 · rename_i n sz len
   split at hy
   · rename_i m get hn0
     split at hy
     · rename_i g hble hg
       injection hy with hy; subst hy
       have hle := Nat.le_of_ble_eq_true hble
       have hx' : ROs w (β n) sz len v := hx
       have hnp := hsub n _ hn0
       have hrb := h.rb n _ hnp
       cases hβ : β n with
       | no => rw [hβ] at hx'; exact hx'.elim
       | virt => rw [hβ] at hrb; exact hrb.elim
       | «at» b ln =>
         rw [hβ] at hx' hrb
         obtain ⟨rfl, cap, rfl, q1, _⟩ := hx'
         obtain ⟨cs, e, g1, g2, g3⟩ := hrb
         refine ⟨some ⟨b, 0, none⟩, cap, rfl, q1, fun _ => ⟨b, 0, rfl, hn n (by simp [ownCVD]) _ b _ hnp hβ, fun i hi j hj => ?_⟩⟩
         have hlt : i * sz + j < m := by
           have : (i + 1) * sz ≤ ln * sz := Nat.mul_le_mul_right _ hi
           rw [Nat.add_mul] at this
           omega
         obtain ⟨q, _⟩ := pureGet_ok (β' := β') (l := ownGet get m) (vs := fun j => cs[j]?) h hsub g3 (fun _ h => h) hg
         obtain ⟨u, hu, hr⟩ := q _ hlt
         refine ⟨u, by rw [cell_of_heap g1, Nat.zero_add]; exact hu, ?_⟩
         exact RP.zup (Zargs.lt h) (up _ (fun k hk => by simp [ownCVD, hn0, hk])) (RP.of_RC (pureGet_pure hg _ hlt) hr)
     · simp at hy
   · exact old hy
 · exact old hy
theorem pureGetD_ok {Fr : Nat → Prop} {B : Nat} (h : SatH E B Fr β Z hp w) {hpS : Hp} (hsub : ∀ n blk, hpS n = some blk → hp n = some blk) {Z1 : Nat → Prop} (hz : ∀ b, Z b → Z1 b) {get : Nat → CV} : ∀ {n : Nat} {g : Nat → CV} {vs : Nat → Option Value},
   (∀ j, j < n → ∃ u, vs j = some u ∧ RC β Z w (get j) u) → (∀ m, m ∈ ownGetD hpS get n → ∀ blk b ln, hp m = some blk → β m = .at b ln → Z1 b) → pureGetD hpS get n = some g → (∀ j, j < n → ∃ u, vs j = some u ∧ RC β' Z1 w (g j) u) ∧ ∀ j, n ≤ j → g j = get j
 | 0, g, vs, _, _, hg => by
   simp [pureGetD] at hg; subst hg
   exact ⟨fun j hj => absurd hj (Nat.not_lt_zero _), fun _ _ => rfl⟩
 | n + 1, g, vs, hv, hl, hg => by
   have ih := fun {g} => pureGetD_ok h hsub hz (get := get) (n := n) (g := g) (vs := vs) (fun j hj => hv j (by omega)) (fun m hm => hl m (by simp [ownGetD, hm]))
   obtain ⟨u, hu, hr⟩ := hv n (by omega)
   unfold pureGetD at hg
   split at hg
   · rename_i g0 e1 e2
     injection hg with hg; subst hg
     obtain ⟨i1, i2⟩ := ih e1
     refine ⟨fun j hj => ?_, fun j hj => i2 j (by omega)⟩
     by_cases hjn : j = n
     · subst hjn
       rw [i2 j (Nat.le_refl _)]
       exact ⟨u, hu, RC.zup h.zlt hz e2 hr⟩
     · exact i1 j (by omega)
   · rename_i g0 e1 e2
     split at hg
     · rename_i y hy
       injection hg with hg; subst hg
       obtain ⟨i1, i2⟩ := ih e1
       refine ⟨fun j hj => ?_, fun j hj => (if_neg (by omega : ¬ j = n)).trans (i2 j (by omega))⟩
       by_cases hjn : j = n
       · subst hjn
         simp only [if_true]
         exact ⟨u, hu, pureCVD_ok h hsub hz (fun m hm => hl m (by simp [ownGetD, hm])) hr hy⟩
       · simp only [hjn, if_false]
         exact i1 j (by omega)
     · simp at hg
   · simp at hg
theorem pureCVD_pure {hpS : Hp} {x y : CV} (hy : pureCVD hpS x = some y) : isPure y = true := by
 unfold pureCVD at hy
 split at hy
 · split at hy
   · split at hy
     · injection hy with hy; subst hy; rfl
     · simp at hy
   · exact pureCV_pure hy
 · exact pureCV_pure hy
theorem pureGetD_after {hpS : Hp} {get : Nat → CV} : ∀ {n : Nat} {g : Nat → CV}, pureGetD hpS get n = some g → ∀ j, n ≤ j → g j = get j
 | 0, g, hg, j, _ => by
   simp [pureGetD] at hg; subst hg; rfl
 | n + 1, g, hg, j, hj => by
   unfold pureGetD at hg
   split at hg
   · rename_i g0 e1 e2
     injection hg with hg; subst hg
     exact pureGetD_after e1 j (by omega)
   · rename_i g0 e1 e2
     split at hg
     · injection hg with hg; subst hg
       exact (if_neg (by omega : ¬ j = n)).trans (pureGetD_after e1 j (by omega))
     · simp at hg
   · simp at hg
theorem pureGetD_pure {hpS : Hp} {get : Nat → CV} : ∀ {n : Nat} {g : Nat → CV}, pureGetD hpS get n = some g → ∀ j, j < n → isPure (g j) = true
 | 0, _, _, j, hj => absurd hj (Nat.not_lt_zero _)
 | n + 1, g, hg, j, hj => by
   unfold pureGetD at hg
   split at hg
   · rename_i g0 e1 e2
     injection hg with hg; subst hg
     by_cases hjn : j = n
     · subst hjn
       rw [pureGetD_after e1 j (Nat.le_refl _)]; exact e2
     · exact pureGetD_pure e1 j (by omega)
   · rename_i g0 e1 e2
     split at hg
     · rename_i y hy
       injection hg with hg; subst hg
       by_cases hjn : j = n
       · subst hjn
         simp only [if_true]
         exact pureCVD_pure hy
       · simp only [hjn, if_false]
         exact pureGetD_pure e1 j (by omega)
     · simp at hg
   · simp at hg
theorem pureTVD_ok {Fr : Nat → Prop} {B : Nat} (h : SatH E B Fr β Z hp w) {hpS : Hp} (hsub : ∀ n blk, hpS n = some blk → hp n = some blk) {x y : TV} {v : Value} (hx : RT β Z w x v) (hy : pureTVD hpS x = some y) :
   RT β' (Zown β Z hp) w y v := by
 cases x with
 | c x =>
   simp only [pureTVD] at hy
   split at hy
   · rename_i z hz
     injection hy with hy; subst hy
     exact pureCVD_ok h hsub (fun b hb => .inl hb) (fun n _ blk b ln h1 h2 => .inr ⟨n, blk, ln, h1, h2⟩) hx hz
   · simp at hy
 | a n get =>
   simp only [pureTVD] at hy
   split at hy
   · rename_i g hg
     injection hy with hy; subst hy
     obtain ⟨cs, rfl, h1, h2⟩ := hx
     exact ⟨cs, rfl, h1, (pureGetD_ok h hsub (fun b hb => .inl hb) (vs := fun j => cs[j]?) h2 (fun n _ blk b ln h1 h2 => .inr ⟨n, blk, ln, h1, h2⟩) hg).1⟩
   · simp at hy
theorem pureTVsD_ok {Fr : Nat → Prop} {B : Nat} (h : SatH E B Fr β Z hp w) {hpS : Hp} (hsub : ∀ n blk, hpS n = some blk → hp n = some blk) : ∀ {xs ys : List TV} {vs : List Value}, RL β Z w xs vs → pureTVsD hpS xs = some ys → RL β' (Zown β Z hp) w ys vs
 | [], ys, vs, hx, hy => by
   simp [pureTVsD] at hy; subst hy
   cases vs with
   | nil => trivial
   | cons => exact hx.elim
 | x :: xs, ys, vs, hx, hy => by
   cases vs with
   | nil => cases x <;> exact hx.elim
   | cons v vs =>
     simp only [pureTVsD] at hy
     split at hy
     · rename_i y r h1 h2
       injection hy with hy; subst hy
       exact ⟨pureTVD_ok h hsub hx.1 h1, pureTVsD_ok h hsub hx.2 h2⟩
     · simp at hy
def CallQ (P : Program) (E : Env) (f : FuncId) (args : List TV) (rs : List RV) : Prop :=
 ∀ (Z : Nat → Prop) (w : World) (vs : List Value), SatH E 0 (fun _ => True) (fun _ => .no) Z (fun _ => none) w → RL (fun _ => .no) Z w args vs →
   CallsIn Fence.wide 0 P f vs.toArray w fun e w' => ∃ val β' Z', e = .returned val ∧ SatH E 0 (fun n => ownCount rs ≤ n) β' Z' (resHp (fun _ => none) rs 0) w' ∧ RA β' Z' w' (resAV (resTVs rs 0)) val ∧
     Evo (fun _ => False) Z w Z' w' ∧ (∀ b, Own β' (resHp (fun _ => none) rs 0) b → w.heap.size ≤ b) ∧ (∀ b, Z' b → Z b ∨ w.heap.size ≤ b)
def SemRec (P : Program) (E : Env) (f : FuncId) (R : RSpec) (g : R.γ) : Prop :=
 ∀ (Z : Nat → Prop) (β : Nat → Loc) (w : World) (vs : List Value), SatH E 0 (fun m => lenR (R.hp g) ≤ m) β Z (canonHp (R.hp g)) w → RL β Z w (R.arg g) vs →
   CallsIn Fence.wide 0 P f vs.toArray w fun e w' => ∃ val l Z', e = .returned val ∧ RB (fun _ => .no) Z' w' l (.row R.e R.size (R.len g) (R.get g)) ∧ (∀ b ln, l = .at b ln → b < w'.heap.size ∧ ¬ Z' b ∧ (Own β (canonHp (R.hp g)) b ∨ w.heap.size ≤ b)) ∧
     ROs w' l R.size (R.len g) val ∧ Evo (Own β (canonHp (R.hp g))) Z w Z' w' ∧ (∀ b, Z' b → Z b ∨ Own β (canonHp (R.hp g)) b ∨ w.heap.size ≤ b) ∧ (∀ b, Z' b → b < w'.heap.size) ∧ GlOk E Z' w'
def SemK (P : Program) (E : Env) (f : FuncId) (R : KSpec) (g : R.γ) : Prop :=
 ∀ (Z : Nat → Prop) (β : Nat → Loc) (w : World) (vs : List Value), SatH E 0 (fun m => lenR (R.hp g) ≤ m) β Z (canonHp (R.hp g)) w → RL β Z w (R.arg g) vs →
   CallsIn Fence.wide 0 P f vs.toArray w fun e w' => ∃ val d Z' βf, e = .returned val ∧ R.post g d ∧ lenB (R.fin g d) = lenR (R.hp g) ∧ (∀ m, R.mv ≠ some m → βf m = β m) ∧
     SatH E 0 (fun m => lenR (R.hp g) ≤ m) βf Z' (canonB (R.fin g d)) w' ∧ (∀ b, Own βf (canonB (R.fin g d)) b → Own β (canonHp (R.hp g)) b ∨ w.heap.size ≤ b) ∧
     RA (fun _ => .no) Z' w' (resAV (R.res g d)) val ∧ Evo (Own β (canonHp (R.hp g))) Z w Z' w' ∧ (∀ b, Z' b → Z b ∨ Own β (canonHp (R.hp g)) b ∨ w.heap.size ≤ b)
def ESpec.toK (R : ESpec) : KSpec := { γ := R.γ, δ := Unit, ok := R.ok, arg := R.arg, hp := R.hp, post := fun _ _ => True, fin := fun g _ => (R.hp g).map Prod.snd, res := fun g _ => R.res g }
theorem flat_any {x : CV} (hx : isFlat x = true) {v : Value} (h : RC β Z w x v) : RC β' Z' w' x v ∧ RP Z' w' x v := by
 cases x <;> simp [isFlat] at hx <;> exact ⟨h, h⟩
theorem flatGet_get : ∀ {get : Nat → CV} {n : Nat}, flatGet get n = true → ∀ j, j < n → isFlat (get j) = true
 | get, 0, _, j, hj => absurd hj (Nat.not_lt_zero j)
 | get, n + 1, h, j, hj => by
   simp only [flatGet, Bool.and_eq_true] at h
   by_cases hjn : j = n
   · subst hjn; exact h.2
   · exact flatGet_get h.1 j (by omega)
theorem chk_iff {b : Bool} : chk b ↔ b = true := by cases b <;> simp [chk]
inductive Carry (rs : List RV) (Z Z' : Nat → Prop) : Prop
 | pure (h : ∀ b, Z b → Z' b) (hp : pureRVs rs = true)
 | flat (h : flatRVs rs = true) (ho : AllP (flatOwns rs))
theorem resTVs_ok {m m' : Nat} : ∀ {rs : List RV} {k : Nat} {vs : Nat → Option Value}, Carry rs Z Z' → (∀ b, Z b → b < w.heap.size) → (∀ i, i < ownCount rs → β' (m' + i) = β (m + i)) →
   (∀ (i : Nat) (x : TV), (resTVs rs m)[i]? = some x → ∃ u, vs i = some u ∧ RT β Z w x u) → ∀ (i : Nat) (x : TV), (resTVs rs m')[i]? = some x → ∃ u, vs i = some u ∧ RT β' Z' w x u
 | [], k, vs, _, _, _, _, i, x, hx => by simp [resTVs] at hx
 | .v y :: l, k, vs, hc, hz, hb, h, i, x, hx => by
   have hc' : Carry l Z Z' := by
     cases hc with
     | pure h1 h2 => exact .pure h1 (by cases y <;> simp [pureRVs] at h2 <;> exact h2.2)
     | flat h1 h2 => exact .flat (by cases y <;> simp [flatRVs] at h1 <;> exact h1.2) h2
   cases i with
   | zero =>
     simp [resTVs] at hx; subst hx
     obtain ⟨u, hu, hr⟩ := h 0 y (by simp [resTVs])
     refine ⟨u, hu, ?_⟩
     cases hc with
     | pure h1 h2 =>
       cases y with
       | c q => simp [pureRVs] at h2; exact RC.of_RP (RP.zup hz h1 (RP.of_RC h2.1 hr))
       | a n g =>
         simp [pureRVs] at h2
         obtain ⟨cs, rfl, a1, a2⟩ := hr
         exact ⟨cs, rfl, a1, fun j hj => let ⟨u, hu, hr⟩ := a2 j hj; ⟨u, hu, RC.of_RP (RP.zup hz h1 (RP.of_RC (allPure_get h2.1 j hj) hr))⟩⟩
     | flat h1 h2 =>
       cases y with
       | c q => simp [flatRVs] at h1; exact (flat_any h1.1 hr).1
       | a n g =>
         simp [flatRVs] at h1
         obtain ⟨cs, rfl, a1, a2⟩ := hr
         exact ⟨cs, rfl, a1, fun j hj => let ⟨u, hu, hr⟩ := a2 j hj; ⟨u, hu, (flat_any (flatGet_get h1.1 j hj) hr).1⟩⟩
   | succ i =>
     simp only [resTVs, List.getElem?_cons_succ] at hx
     exact resTVs_ok (rs := l) (k := k) (vs := fun i => vs (i + 1)) hc' hz hb (fun i x hx => h (i + 1) x (by simpa [resTVs] using hx)) i x hx
 | .own e size len get :: l, k, vs, hc, hz, hb, h, i, x, hx => by
   have hc' : Carry l Z Z' := by
     cases hc with
     | pure h1 h2 => exact .pure h1 (by simpa [pureRVs] using h2)
     | flat h1 h2 => exact .flat (by simpa [flatRVs] using h1) h2.2
   cases i with
   | zero =>
     simp [resTVs] at hx; subst hx
     obtain ⟨u, hu, hr⟩ := h 0 _ (by simp [resTVs]; rfl)
     refine ⟨u, hu, ?_⟩
     have hr' : ROs w (β m) size len u := hr
     show ROs w (β' m') size len u
     have := hb 0 (by simp [ownCount])
     simp only [Nat.add_zero] at this
     rw [this]; exact hr'
   | succ i =>
     simp only [resTVs, List.getElem?_cons_succ] at hx
     exact resTVs_ok (rs := l) (k := k) (m := m + 1) (m' := m' + 1) (vs := fun i => vs (i + 1)) hc' hz (fun i hi => by
       have := hb (i + 1) (by simp only [ownCount]; omega)
       rw [show m' + 1 + i = m' + (i + 1) by omega, show m + 1 + i = m + (i + 1) by omega]; exact this) (fun i x hx => h (i + 1) x (by simpa [resTVs] using hx)) i x hx
theorem resHp_get {base : Hp} : ∀ {rs : List RV} {m n : Nat}, (n < m ∨ m + ownCount rs ≤ n) → resHp base rs m n = base n
 | [], m, n, _ => rfl
 | .v _ :: l, m, n, h => resHp_get (rs := l) h
 | .own _ _ _ _ :: l, m, n, h => by
   simp only [resHp, ownCount] at *
   rw [upd_ne _ _ (by omega), resHp_get (rs := l) (by omega)]
theorem resHp_own {base : Hp} : ∀ {rs : List RV} {m i : Nat}, i < ownCount rs → ∃ e size len get, resHp base rs m (m + i) = some (.row e size len get) ∧ (∀ base' m', resHp base' rs m' (m' + i) = some (.row e size len get)) ∧ (∀ j, j < len → AllP (flatOwns rs) → flatGet (get j) size = true)
 | [], m, i, h => absurd h (Nat.not_lt_zero _)
 | .v _ :: l, m, i, h => by
   obtain ⟨e, size, len, get, h1, h2, h3⟩ := resHp_own (base := base) (rs := l) (m := m) (i := i) h
   exact ⟨e, size, len, get, h1, h2, h3⟩
 | .own e size len get :: l, m, i, h => by
   cases i with
   | zero => exact ⟨e, size, len, get, by simp [resHp, upd_same], fun b' m' => by simp [resHp, upd_same], fun j hj hf => chk_iff.1 (hf.1 j hj)⟩
   | succ i =>
     obtain ⟨e', size', len', get', h1, h2, h3⟩ := resHp_own (base := base) (rs := l) (m := m + 1) (i := i) (by simp only [ownCount] at h; omega)
     refine ⟨e', size', len', get', ?_, fun b' m' => ?_, fun j hj hf => h3 j hj hf.2⟩
     · simp only [resHp]; rw [upd_ne _ _ (by omega), show m + (i + 1) = m + 1 + i by omega]; exact h1
     · simp only [resHp]; rw [upd_ne _ _ (by omega), show m' + (i + 1) = m' + 1 + i by omega]; exact h2 b' (m' + 1)
theorem RA.of_list {l : List TV} {v : Value} (h : RA β Z w (resAV l) v) : ∃ vs : Nat → Option Value, (∀ (i : Nat) (x : TV), l[i]? = some x → ∃ u, vs i = some u ∧ RT β Z w x u) ∧
   ∀ (β' : Nat → Loc) (Z' : Nat → Prop) (w' : World) (l' : List TV), l'.length = l.length → (∀ (i : Nat) (x : TV), l'[i]? = some x → ∃ u, vs i = some u ∧ RT β' Z' w' x u) → RA β' Z' w' (resAV l') v := by
 match l, h with
 | [], h =>
   obtain ⟨vs, rfl, h1, h2⟩ := h
   refine ⟨fun i => vs[i]?, h2, fun β' Z' w' l' hl' hr => ?_⟩
   have : l' = [] := by simpa using hl'
   subst this
   exact ⟨vs, rfl, h1, hr⟩
 | [x], h =>
   refine ⟨fun i => match i with | 0 => some v | _ => none, fun i y hy => ?_, fun β' Z' w' l' hl' hr => ?_⟩
   · cases i with
     | zero => simp at hy; subst hy; exact ⟨v, rfl, h⟩
     | succ i => simp at hy
   · match l', hl' with
     | [y], _ =>
       obtain ⟨u, hu, hr⟩ := hr 0 y rfl
       simp at hu; subst hu
       exact hr
 | x :: y :: l, h =>
   obtain ⟨vs, rfl, h1, h2⟩ := h
   refine ⟨fun i => vs[i]?, h2, fun β' Z' w' l' hl' hr => ?_⟩
   match l', hl' with
   | a :: b :: l', hl' =>
     exact ⟨vs, rfl, by rw [h1]; exact hl'.symm, hr⟩
theorem resTVs_length : ∀ {rs : List RV} {m m' : Nat}, (resTVs rs m).length = (resTVs rs m').length
 | [], _, _ => rfl
 | .v _ :: l, m, m' => by simp [resTVs, resTVs_length (rs := l) (m := m) (m' := m')]
 | .own _ _ _ _ :: l, m, m' => by simp [resTVs, resTVs_length (rs := l) (m := m + 1) (m' := m' + 1)]
theorem back_ok {nx : Nat} {Fr : Nat → Prop} (h : SatH E 0 Fr β Z hp w) (hFr : ∀ n, nx ≤ n → n < nx + 4 → Fr n) {rs : List RV} (hle : ownCount rs ≤ 4)
   {Z1 : Nat → Prop} (hz1 : ∀ b, Z b → Z1 b) (hz1lt : ∀ b, Z1 b → b < w.heap.size) (hz1o : ∀ b, Z1 b → Z b ∨ Own β hp b) {β1 : Nat → Loc} {Z1' : Nat → Prop} {val : Value}
   (c1 : SatH E 0 (fun n => ownCount rs ≤ n) β1 Z1' (resHp (fun _ => none) rs 0) w') (c2 : RA β1 Z1' w' (resAV (resTVs rs 0)) val) (c3 : Evo (fun _ => False) Z1 w Z1' w')
   (c4 : ∀ b, Own β1 (resHp (fun _ => none) rs 0) b → w.heap.size ≤ b) (c5 : ∀ b, Z1' b → Z1 b ∨ w.heap.size ≤ b)
   {base : Hp} (hbase : ∀ n blk, base n = some blk → hp n = some blk) {Z2 : Nat → Prop} (hz2 : ∀ b, Z b → Z2 b) (hz2o : ∀ b, Z2 b → Z b ∨ Z1' b) (hz2b : ∀ n blk b ln, base n = some blk → β n = .at b ln → ¬ Z2 b) (hc : Carry rs Z1' Z2) :
   ∃ β2, SatH E 0 (fun n => Fr n ∧ ¬ (nx ≤ n ∧ n < nx + 4)) β2 Z2 (resHp base rs nx) w' ∧ RA β2 Z2 w' (resAV (resTVs rs nx)) val ∧ Evo (Own β hp) Z w Z2 w' ∧ Ext β β2 ∧
     (∀ b, Own β2 (resHp base rs nx) b → Own β hp b ∨ w.heap.size ≤ b) ∧ (∀ b, Z2 b → Z b ∨ Own β hp b ∨ w.heap.size ≤ b) ∧ (∀ n, n < nx → resHp base rs nx n = base n) := by
 let β2 : Nat → Loc := fun n => if nx ≤ n ∧ n < nx + ownCount rs then β1 (n - nx) else β n
 have hβnew : ∀ i, i < ownCount rs → β2 (nx + i) = β1 i := fun i hi => by
   show (if nx ≤ nx + i ∧ nx + i < nx + ownCount rs then β1 (nx + i - nx) else β (nx + i)) = _
   rw [if_pos (by omega)]; congr 1; omega
 have hβold : ∀ n, ¬ (nx ≤ n ∧ n < nx + ownCount rs) → β2 n = β n := fun n hn => if_neg hn
 have ext : Ext β β2 := fun n hn => hβold n (fun hh => hn (h.fresh n (hFr n hh.1 (by omega))))
 have ev : Evo (Own β hp) Z w Z2 w' := ⟨c3.os, c3.tape, c3.output, c3.size, fun b hb _ => c3.same b hb (fun h => h), c3.rows, c3.loops, hz2⟩
 have hz1' : ∀ b, Z1' b → b < w'.heap.size := c1.zlt
 have hz2lt : ∀ b, Z2 b → b < w'.heap.size := fun b hb => (hz2o b hb).elim (fun h1 => Nat.lt_of_lt_of_le (h.zlt b h1) c3.size) (hz1' b)
 have newb : ∀ i, i < ownCount rs → ∀ b ln, β1 i = .at b ln → ∃ blk, resHp (fun _ => none) rs 0 i = some blk ∧ w.heap.size ≤ b ∧ b < w'.heap.size ∧ ¬ Z1' b := fun i hi b ln hb => by
   obtain ⟨e, size, len, get, q1, _, _⟩ := resHp_own (base := fun _ => none) (rs := rs) (m := 0) hi
   rw [Nat.zero_add] at q1
   obtain ⟨g1, g2, _⟩ := c1.own i _ b ln q1 hb
   exact ⟨_, q1, c4 b ⟨i, _, ln, q1, hb⟩, g1, g2⟩
 have cases_ : ∀ n blk, resHp base rs nx n = some blk → (base n = some blk ∧ ¬ (nx ≤ n ∧ n < nx + ownCount rs)) ∨ ∃ i, i < ownCount rs ∧ n = nx + i := fun n blk hn => by
   by_cases hh : nx ≤ n ∧ n < nx + ownCount rs
   · exact .inr ⟨n - nx, by omega, by omega⟩
   · rw [resHp_get (by omega)] at hn; exact .inl ⟨hn, hh⟩
 refine ⟨β2, ?_, ?_, ev, ext, fun b hb => ?_, fun b hb => ?_, fun n hn => resHp_get (.inl hn)⟩
 · refine h.step ev ext (fun n blk hn => ?_) (fun n m x y b l1 l2 hn hm hb1 hb2 => ?_) hz2lt (fun n hn => ?_)
   · rcases cases_ n blk hn with ⟨h1, h2⟩ | ⟨i, hi, rfl⟩
     · refine .inl ⟨hbase n blk h1, fun b ln hb => ⟨?_, hz2b n blk b ln h1 hb⟩⟩
       exact c3.same b (h.own n blk b ln (hbase n blk h1) hb).1 (fun h => h)
     · refine .inr ?_
       obtain ⟨e, size, len, get, q1, q2, q3⟩ := resHp_own (base := base) (rs := rs) (m := nx) hi
       rw [q1] at hn; injection hn with hn; subst hn
       have q2' := q2 (fun _ => none) 0
       rw [Nat.zero_add] at q2'
       have hrb := c1.rb i _ q2'
       rw [hβnew i hi]
       refine ⟨?_, fun b ln hb => ?_⟩
       · cases hl : β1 i with
         | no => rw [hl] at hrb; exact hrb.elim
         | virt => rw [hl] at hrb; exact hrb
         | «at» b ln =>
           rw [hl] at hrb
           obtain ⟨a0, cs, a1, a2, a3⟩ := hrb
           refine ⟨a0, cs, a1, a2, fun i' hi' j hj => ?_⟩
           obtain ⟨u, hu, hr⟩ := a3 i' hi' j hj
           refine ⟨u, hu, ?_⟩
           cases hc with
           | pure p1 p2 => exact RP.zup hz1' p1 hr
           | flat p1 p2 => exact (flat_any (β' := β2) (flatGet_get (q3 i' hi' p2) j hj) (RC.of_RP (β := β2) hr)).2
       · obtain ⟨blk, r1, r2, r3, r4⟩ := newb i hi b ln hb
         exact ⟨r3, fun hz => (hz2o b hz).elim (fun hz => absurd (h.zlt b hz) (by omega)) r4, Nat.zero_le _⟩
   · rcases cases_ n x hn with ⟨h1, h2⟩ | ⟨i, hi, rfl⟩
     · rcases cases_ m y hm with ⟨h3, h4⟩ | ⟨j, hj, rfl⟩
       · rw [hβold n h2] at hb1
         rw [hβold m h4] at hb2
         exact h.inj n m x y b l1 l2 (hbase n x h1) (hbase m y h3) hb1 hb2
       · rw [hβold n h2] at hb1
         rw [hβnew j hj] at hb2
         obtain ⟨_, _, r2, _⟩ := newb j hj b l2 hb2
         exact absurd (h.own n x b l1 (hbase n x h1) hb1).1 (by omega)
     · rcases cases_ m y hm with ⟨h3, h4⟩ | ⟨j, hj, rfl⟩
       · rw [hβnew i hi] at hb1
         rw [hβold m h4] at hb2
         obtain ⟨_, _, r2, _⟩ := newb i hi b l1 hb1
         exact absurd (h.own m y b l2 (hbase m y h3) hb2).1 (by omega)
       · rw [hβnew i hi] at hb1
         rw [hβnew j hj] at hb2
         obtain ⟨x', r1, _⟩ := newb i hi b l1 hb1
         obtain ⟨y', r2, _⟩ := newb j hj b l2 hb2
         have := c1.inj i j x' y' b l1 l2 r1 r2 hb1 hb2
         omega
   · rw [hβold n (fun hh => hn.2 ⟨hh.1, by omega⟩)]; exact h.fresh n hn.1
 · obtain ⟨vs, v1, v2⟩ := RA.of_list c2
   exact v2 β2 Z2 w' _ resTVs_length (resTVs_ok (k := 0) (m := 0) (m' := nx) hc hz1' (fun i hi => by rw [Nat.zero_add]; exact hβnew i hi) v1)
 · obtain ⟨n, blk, ln, hn, hb⟩ := hb
   rcases cases_ n blk hn with ⟨h1, h2⟩ | ⟨i, hi, rfl⟩
   · rw [hβold n h2] at hb; exact .inl ⟨n, blk, ln, hbase n blk h1, hb⟩
   · rw [hβnew i hi] at hb
     obtain ⟨_, _, r2, _⟩ := newb i hi b ln hb
     exact .inr r2
 · rcases hz2o b hb with h1 | h1
   · exact .inl h1
   · rcases c5 b h1 with h2 | h2
     · rcases hz1o b h2 with h3 | h3
       · exact .inl h3
       · exact .inr (.inl h3)
     · exact .inr (.inr h2)
end
end Go.Sx
