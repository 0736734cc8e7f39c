/- The framework Sx, part 4b: one operation, whichever it is. -/
import Derived.Test.YthcplmlkgaiggaaSxMap
set_option linter.unusedSimpArgs false
set_option linter.unusedVariables false
namespace Go.Sx
section
variable {P : Program} {E : Env} {B : Nat} {Fr : Nat → Prop} {β : Nat → Loc} {Z : Nat → Prop} {hp : Nat → Option Blk} {w : World}

theorem eqGuard_flat {op : BinOp} {t : Nat} {x y : Operand} {a b : Value} (ha : a.oneCell' = true) (hn : a ≠ .nilIface) : (eqGuard op t x y a b).run P w = .ok () w := by
  unfold eqGuard
  cases a <;> first
    | (simp [Value.oneCell'] at ha; done)
    | exact absurd rfl hn
    | (cases op <;> first | rfl | (cases b <;> rfl))

theorem eqGuard_agg {op : BinOp} {t : Nat} {x y : Operand} {xs ys : Array Value} (h : P.eqGuardType P.depth t = false) : (eqGuard op t x y (.agg xs) (.agg ys)).run P w = .ok () w :=
  run_eqGuard_agg w op t x y xs ys h

theorem eqGuard_int {op : BinOp} {t : Nat} {x y : Operand} {k k' : IntKind} {a b : Int} : (eqGuard op t x y (.int k a) (.int k' b)).run P w = .ok () w := eqGuard_flat rfl (by simp)

/-- '==' and '!=' of plain values. -/
theorem eq_run (hT : TabOk P E) {t : Nat} {ti : TI} (ht : E.ty t = some ti) {neg : Bool} {x y : AV} {u v : Value} (hx : RA β Z w x u) (hy : RA β Z w y v) {c : List Prop} {r : AV} (h : planEq E ti neg x y = .ok c r) (xo yo : Operand) :
    ∃ q, (do eqGuard (if neg then .neq else .eql) t xo yo u v; binOp (if neg then .neq else .eql) t u v : Sem Value).run P w = .ok q w ∧ RA β Z w r q := by
  obtain ⟨b, h1, h2⟩ := equal_ok hT ht hx hy h
  obtain ⟨hTt, hok⟩ := hT t ti ht
  obtain ⟨i, d, z, hF⟩ := tabTI_spec hTt
  refine ⟨_, ?_, h2⟩
  unfold planEq at h
  split at h
  · rename_i n f m g
    obtain ⟨xs, rfl, _⟩ := hx
    obtain ⟨ys, rfl, _⟩ := hy
    obtain ⟨_, h⟩ := need_ok h (by simp)
    have hgd : P.eqGuardType P.depth t = false := by
      split at h
      · rename_i fs hk
        obtain ⟨_, _, _, _, _, hgd⟩ := hF.struct hk
        exact hgd
      · rename_i l e hk
        exact (hF.array hk).2
      · simp at h
    cases neg
    · simp [eqGuard_agg hgd, binOp, h1]
    · simp [eqGuard_agg hgd, binOp, h1]
  · rename_i cx cy
    obtain ⟨b', hb', _⟩ := eqPlan_ok (β := β) (Z := Z) (w := w) h
    unfold eqCell at hb'
    split at hb'
    · split at hb'
      · rename_i k1 a k2 b0
        split at hb'
        · rename_i hkk
          obtain rfl := kindNo_inj hkk
          obtain rfl := int_of hx
          obtain rfl := int_of hy
          have e := (eqCell_ok hF (β := β) (Z := Z) (w := w) (x := .int k1 a) (y := .int k1 b0) rfl rfl (b := (a == b0)) (by
            unfold eqCell
            rename_i k hk _ _ _
            simp_all) 9999).1
          rw [show (9999 + 1) = Op.maxDepth from rfl] at e
          rw [Op.equal] at h1
          rw [h1] at e
          injection e with e _
          subst e
          cases neg
          · simp [eqGuard_int, binOp, Op.intCmp]
          · simp [eqGuard_int, binOp, Op.intCmp]; rfl
        · simp at hb'
      · simp at hb'
    · split at hb'
      · rename_i a b0
        obtain rfl : u = .string a := hx
        obtain rfl : v = .string b0 := hy
        have e := (eqCell_ok hF (β := β) (Z := Z) (w := w) (x := .str a) (y := .str b0) rfl rfl (b := (a.toList == b0.toList)) (by
          unfold eqCell
          simp_all) 9999).1
        rw [show (9999 + 1) = Op.maxDepth from rfl] at e
        rw [Op.equal] at h1
        rw [h1] at e
        injection e with e _
        subst e
        cases neg
        · simp [eqGuard_flat (a := .string a) rfl (by simp), binOp, Op.stringOp]
        · simp [eqGuard_flat (a := .string a) rfl (by simp), binOp, Op.stringOp]
      · simp at hb'
    · split at hb'
      · rename_i a b0 ha hb0
        obtain rfl := truth_ok (β := β) (Z := Z) (w := w) hx ha
        obtain rfl := truth_ok (β := β) (Z := Z) (w := w) hy hb0
        cases neg
        · simp [eqGuard_flat (a := .bool a) rfl (by simp), binOp, h1]
        · simp [eqGuard_flat (a := .bool a) rfl (by simp), binOp, h1]
      · simp at hb'
    · simp at hb'
  · simp at h

theorem bin_ok (hT : TabOk P E) {t : Nat} {ti : TI} (ht : E.ty t = some ti) {op : BinOp} {x y : AV} {u v : Value} (hx : RA β Z w x u) (hy : RA β Z w y v) {c : List Prop} {r : AV} (h : planBin E op ti x y = .ok c r) (hc : AllP c) (xo yo : Operand) :
    ∃ q, (do eqGuard op t xo yo u v; binOp op t u v : Sem Value).run P w = .ok q w ∧ RA β Z w r q := by
  unfold planBin at h
  split at h
  · rename_i k a k' b
    obtain rfl := int_of hx
    obtain rfl := int_of hy
    split at h
    · rename_i hkk
      obtain rfl := kindNo_inj hkk
      obtain ⟨q, h1, h2⟩ := intOp_ok (P := P) (β := β) (Z := Z) (w := w) (t := t) h hc
      exact ⟨q, by simp [eqGuard_int, h1], h2⟩
    · simp at h
  · split at h
    · exact eq_run hT ht (neg := false) hx hy h xo yo
    · exact eq_run hT ht (neg := true) hx hy h xo yo
    · simp at h

theorem args_eq {c : Call} {a : Act} : (c.args.map a.eval).toList = c.args.toList.map a.eval := by simp

theorem arr_two {α : Type} {x : Array α} {a b : α} (h : x.toList = [a, b]) : x = #[a, b] := by
  cases x; simp at h; subst h; rfl
theorem arr_one {α : Type} {x : Array α} {a : α} (h : x.toList = [a]) : x = #[a] := by
  cases x; simp at h; subst h; rfl

theorem bool_of_truth {x : AV} {v : Value} (hx : RA β Z w x v) {b : Bool} (h : truth x = some b) : v = .bool b := truth_ok hx h


/-! #### Which plans there can be -/


theorem okBad_load {ti : TI} {x : AV} : okBad (planLoad hp ti x) := by
  unfold planLoad; repeat' split
  all_goals first | trivial | exact okBad_need trivial
theorem okBad_fieldAddr {ti : TI} {f : Nat} {x : AV} : okBad (planFieldAddr E ti f x) := by
  unfold planFieldAddr Plan.cell; repeat' split
  all_goals first | trivial | exact okBad_need trivial
theorem okBad_field {ti : TI} {f : Nat} {x : AV} : okBad (planField E ti f x) := by
  unfold planField; repeat' split
  all_goals first | trivial | exact okBad_need trivial
theorem okBad_indexAddr {ti : TI} {x y : AV} : okBad (planIndexAddr E ti x y) := by
  unfold planIndexAddr Plan.cell; repeat' split
  all_goals first | trivial | exact okBad_need trivial
theorem okBad_index {ti : TI} {x y : AV} : okBad (planIndex E ti x y) := by
  unfold planIndex Plan.cell; repeat' split
  all_goals first | trivial | exact okBad_need trivial
theorem okBad_eqPlan {b : Bool} {o : Option Bool} : okBad (eqPlan b o) := by
  unfold eqPlan Plan.cell; split <;> trivial
theorem okBad_eq {ti : TI} {neg : Bool} {x y : AV} : okBad (planEq E ti neg x y) := by
  unfold planEq
  split
  · refine okBad_need ?_
    repeat' split
    all_goals first | exact okBad_eqPlan | trivial | exact okBad_need okBad_eqPlan
  · exact okBad_eqPlan
  · trivial
theorem okBad_bin {ti : TI} {op : BinOp} {x y : AV} : okBad (planBin E op ti x y) := by
  unfold planBin intOp Plan.cell
  repeat' split
  all_goals first | trivial | exact okBad_eq
theorem okBad_un {op : UnOp} {x : AV} : okBad (planUn op x) := by
  unfold planUn Plan.cell; split <;> trivial
theorem okBad_conv {ti : TI} {x : AV} : okBad (planConv ti x) := by
  unfold planConv Plan.cell; split <;> trivial
theorem okBad_len {ti : TI} {x : AV} : okBad (planLen ti x) := by
  unfold planLen Plan.cell; split <;> trivial
theorem okBad_mm {f : Int → Int → Int} {l : Option (List TV)} : okBad (planMM f l) := by
  unfold planMM Plan.cell; repeat' split
  all_goals trivial
theorem okBad_func {tm : Nat → AV} {fn : Fn} {a b : List Operand} : okBad (planFunc E tm fn a b) := by
  unfold planFunc Plan.cell; split
  · exact okBad_need trivial
  · trivial
theorem okBad_build {ti : TI} {l : List (Nat × AV)} : okBad (planBuild E ti l) := by
  unfold planBuild; repeat' split
  all_goals first | trivial | exact okBad_need trivial

theorem okBad.get {p : Plan} (h : okBad p) {nm : Nat} {r : (Nat → Option Blk) × AV} (he : p.eff nm hp = some r) : ∃ c y, p = .ok c y ∧ r = (hp, y) := by
  cases p <;> first
    | exact h.elim
    | (simp [Plan.eff] at he; done)
    | (simp [Plan.eff] at he; exact ⟨_, _, rfl, he.symm⟩)

theorem mkOnly_slice {ti : TI} {n : Nat} {l : List (Nat × AV)} {nm : Nat} {r : (Nat → Option Blk) × AV} (he : (planBuildSlice E ti n l).eff nm hp = some r) : ∃ c b v, planBuildSlice E ti n l = .mk c b v ∧ r = (upd hp nm (some b), v nm) := by
  unfold planBuildSlice at he ⊢
  split at he
  · split at he
    · split at he
      · unfold need at he ⊢
        split at he
        · simp only [Plan.eff, Option.some.injEq] at he; exact ⟨_, _, _, rfl, he.symm⟩
        · simp [Plan.eff] at he
      · simp [Plan.eff] at he
    · simp [Plan.eff] at he
  · simp [Plan.eff] at he

theorem mkOnly_make {ti : TI} {x y : AV} {nm : Nat} {r : (Nat → Option Blk) × AV} (he : (planMakeSlice E ti x y).eff nm hp = some r) : ∃ c b v, planMakeSlice E ti x y = .mk c b v ∧ r = (upd hp nm (some b), v nm) := by
  unfold planMakeSlice at he ⊢
  split at he
  · split at he
    · split at he
      · unfold need at he ⊢
        split at he
        · simp only [Plan.eff, Option.some.injEq] at he; exact ⟨_, _, _, rfl, he.symm⟩
        · simp [Plan.eff] at he
      · simp [Plan.eff] at he
    · simp [Plan.eff] at he
  · simp [Plan.eff] at he

theorem wrOnly_store {hpS : Nat → Option Blk} {ti : TI} {x y : AV} {nm : Nat} {r : (Nat → Option Blk) × AV} (he : (planStore hpS ti x y).eff nm hp = some r) : ∃ c n b, planStore hpS ti x y = .wr c n b ∧ r = (upd hp n (some b), .any) := by
  unfold planStore at he ⊢
  split at he
  · split at he
    · unfold need at he ⊢
      split at he
      · simp only [Plan.eff, Option.some.injEq] at he; exact ⟨_, _, _, rfl, he.symm⟩
      · simp [Plan.eff] at he
    · simp [Plan.eff] at he
  · split at he
    · unfold need at he ⊢
      split at he
      · simp only [Plan.eff, Option.some.injEq] at he; exact ⟨_, _, _, rfl, he.symm⟩
      · simp [Plan.eff] at he
    · simp [Plan.eff] at he
  · split at he
    · unfold need at he ⊢
      split at he
      · simp only [Plan.eff, Option.some.injEq] at he; exact ⟨_, _, _, rfl, he.symm⟩
      · simp [Plan.eff] at he
    · simp [Plan.eff] at he
  · simp [Plan.eff] at he

theorem osIn_spec {get : Nat → CV} : ∀ {k j m : Nat}, osIn get k = some (j, m) → j < k ∧ ∃ s l, get j = .os m s l
  | 0, _, _, h => by simp [osIn] at h
  | k + 1, j, m, h => by
    unfold osIn at h
    split at h
    · rename_i n s l hg
      split at h
      · simp only [Option.some.injEq, Prod.mk.injEq] at h
        obtain ⟨rfl, rfl⟩ := h
        exact ⟨Nat.lt_succ_self _, s, l, hg⟩
      · simp at h
    · obtain ⟨h1, h2⟩ := osIn_spec h
      exact ⟨Nat.lt_succ_of_lt h1, h2⟩

/-- A slice of the call's own reads, once it is let go, as what it holds. -/
theorem os_froze (h : SatH E B Fr β Z hp w) {n : Nat} {e : TypeId} {size len : Nat} {get : Nat → Nat → CV} (hnp : hp n = some (.row e size len get)) {s l : Nat} {u : Value} (hu : ROs w (β n) s l u) :
    RP (fun b => Z b ∨ (∃ blk ln, hp n = some blk ∧ β n = .at b ln)) w (.vs size len get) u := by
  have hrb := h.rb n _ hnp
  have hfz := h.freeze n
  cases hβ : β n with
  | no => rw [hβ] at hu; exact hu.elim
  | virt =>
    rw [hβ] at hu hrb
    obtain ⟨rfl, rfl⟩ := hu
    have h0 : len = 0 := hrb
    subst h0
    exact ⟨none, 0, rfl, Nat.le_refl _, fun h => absurd h (Nat.lt_irrefl 0)⟩
  | «at» b ln =>
    rw [hβ] at hu hrb
    obtain ⟨rfl, cap, rfl, q1, _⟩ := hu
    obtain ⟨rfl, cs, g1, g2, g3⟩ := hrb
    refine ⟨_, cap, rfl, q1, fun _ => ⟨b, 0, rfl, .inr ⟨_, _, hnp, rfl⟩, fun i hi j hj => ?_⟩⟩
    obtain ⟨u, hu, hr⟩ := g3 i hi j hj
    refine ⟨u, by rw [cell_of_heap g1, Nat.zero_add]; exact hu, ?_⟩
    have := RP.mono hfz.ev h.calm hr
    rw [hβ] at this
    exact this

/-- Two steps, one behind the other. -/
theorem Left.trans {Fr1 Fr2 : Nat → Prop} {β1 β2 : Nat → Loc} {Z1 Z2 : Nat → Prop} {hp1 hp2 : Nat → Option Blk} {w1 w2 : World} (h : Left E B Fr1 β Z hp w β1 Z1 hp1 w1) (k : Left E B Fr2 β1 Z1 hp1 w1 β2 Z2 hp2 w2) : Left E B Fr2 β Z hp w β2 Z2 hp2 w2 :=
  ⟨k.sat, h.ev.trans k.ev h.own, h.ext.trans k.ext, fun b hb => (k.own b hb).elim (h.own b) (fun hle => .inr (Nat.le_trans h.ev.size hle)),
    fun b hb => (k.zown b hb).elim (h.zown b) (fun hk => hk.elim (fun ho => .inr (h.own b ho)) (fun hle => .inr (.inr (Nat.le_trans h.ev.size hle))))⟩

theorem storeF_ok {P : Program} (h : SatH E B Fr β Z hp w) {nm : Nat} {hpS : Nat → Option Blk} (hsub : ∀ n blk, hpS n = some blk → hp n = some blk) (hrbS : ∀ n blk, hpS n = some blk → RB β Z w (β n) blk) {t : Nat} {ti : TI} (hT : tabTI P t = some ti)
    {x y : AV} {vx vy : Value} (hx : RA β Z w x vx) (hy : RA β Z w y vy) {hp' : Nat → Option Blk} {v : AV} (hc : AllP (planStoreF hpS ti x y).conds) (he : (planStoreF hpS ti x y).eff nm hp = some (hp', v)) :
    OpOk P E B (fun n => Fr n ∧ n ≠ nm) β Z hp w (do Instr.storeAt t vx vy; pure .skip) hp' v := by
  have plain : ∀ x y, RA β Z w x vx → RA β Z w y vy → AllP (planStore hpS ti x y).conds → (planStore hpS ti x y).eff nm hp = some (hp', v) → OpOk P E B (fun n => Fr n ∧ n ≠ nm) β Z hp w (do Instr.storeAt t vx vy; pure .skip) hp' v := by
    intro x y hx hy hc he
    obtain ⟨c, n, b, e1, e2⟩ := wrOnly_store he
    simp only [Prod.mk.injEq] at e2
    obtain ⟨rfl, rfl⟩ := e2
    obtain ⟨bk, ln, cs, e, cs', ⟨old, hold⟩, hb, hcs, hr, hsz, hrc⟩ := store_ok hT hrbS hx hy e1 (by rw [e1] at hc; exact hc)
    have hl := h.write (hsub n old hold) hb hcs hsz hrc
    exact ⟨.skip, undef, _, β, Z, by simp [hr], .inr ⟨rfl, rfl⟩, ⟨hl.sat.weaken (fun n hn => hn.1), hl.ev, hl.ext, hl.own, hl.zown⟩, trivial⟩
  unfold planStoreF at he hc
  split at he
  · rename_i n sz i off k g
    split at he
    · rename_i j m ho
      split at he
      · rename_i e0 size len get hm
        split at he
        · rename_i c n' blk hw
          split at he
          · simp [Plan.eff] at he
          · rename_i hne
            simp only [ho, hm, hw, hne] at hc
            simp only [Plan.eff, Option.some.injEq, Prod.mk.injEq] at he
            obtain ⟨rfl, rfl⟩ := he
            have hnp := hsub m _ hm
            have hfz := h.freeze m
            obtain ⟨hjk, s, l, hgj⟩ := osIn_spec ho
            obtain ⟨cs0, rfl, hcs0, hcell⟩ := hy
            have hy1 : RA β (fun b => Z b ∨ (∃ blk ln, hp m = some blk ∧ β m = .at b ln)) w (.t (.a k (overAll k g j 1 (fun _ => .vs size len get)))) (.agg cs0) := by
              refine ⟨cs0, rfl, hcs0, fun q hq => ?_⟩
              obtain ⟨u, hu, hr⟩ := hcell q hq
              refine ⟨u, hu, ?_⟩
              rw [overAll_eq k g j 1 _ q hq (by omega)]
              split
              · obtain rfl : q = j := by omega
                rw [hgj] at hr
                exact RC.of_RP (os_froze h hnp hr)
              · exact RC.mono hfz.ev h.calm (Ext.refl β) hr
            obtain ⟨bk, ln, cs, e, cs', ⟨old, hold⟩, hb, hcs, hr, hsz, hrc⟩ := store_ok hT (fun n blk hn => RB.mono hfz.ev h.calm (Ext.refl β) (fun _ _ _ => rfl) (hrbS n blk hn)) (RA.mono hfz.ev h.calm (Ext.refl β) hx) hy1 hw hc
            have hnm : n' ≠ m := fun e => by subst e; simp at hne
            have hl := hfz.trans (hfz.sat.write (n := n') (old := old) (by rw [upd_ne _ _ hnm]; exact hsub n' old hold) hb hcs hsz hrc)
            exact ⟨.skip, undef, _, β, _, by simp [hr], .inr ⟨rfl, rfl⟩, ⟨hl.sat.weaken (fun n hn => hn.1), hl.ev, hl.ext, hl.own, hl.zown⟩, trivial⟩
        · simp [Plan.eff] at he
      · simp [Plan.eff] at he
    · rename_i ho
      simp only [ho] at hc
      exact plain _ _ hx hy hc he
  · rename_i hne
    refine plain _ _ hx hy ?_ he
    simpa using hc

theorem froze_ok {β : Nat → Loc} {Z Z' : Nat → Prop} {w : World} {n size len : Nat} {get : Nat → Nat → CV} (h1 : ∀ x v, RA β Z w x v → RA β Z' w x v) (h2 : ∀ s l v, ROs w (β n) s l v → RP Z' w (.vs size len get) v) :
    ∀ {parts : List (Nat × AV)} {vs : List (Nat × Value)}, RParts β Z w parts vs → RParts β Z' w (frozeParts n size len get parts) vs
  | [], [], _ => trivial
  | (i, x) :: l, (j, v) :: r, ⟨e, hx, hl⟩ => by
    refine ⟨e, ?_, froze_ok h1 h2 hl⟩
    unfold frozeAV
    split
    · rename_i m s l'
      split
      · rename_i hb
        obtain rfl := Nat.eq_of_beq_eq_true hb
        exact RC.of_RP (h2 s l' v hx)
      · exact h1 _ _ hx
    · exact h1 _ _ hx
  | [], _ :: _, h => h.elim
  | _ :: _, [], h => h.elim

theorem buildF_ok (hT : TabOk P E) (h : SatH E B Fr β Z hp w) {nm : Nat} {hpS : Nat → Option Blk} (hsub : ∀ n blk, hpS n = some blk → hp n = some blk) {t : Nat} {ti : TI} (ht : E.ty t = some ti)
    {parts : List (Nat × AV)} {vs : Array (Nat × Value)} (hr : RParts β Z w parts vs.toList) {hp' : Nat → Option Blk} {v : AV} (he : (planBuildF hpS E ti parts).eff nm hp = some (hp', v)) :
    OpOk P E B (fun n => Fr n ∧ n ≠ nm) β Z hp w (do pure (.value (← Instr.build t vs))) hp' v := by
  unfold planBuildF at he
  split at he
  · rename_i n hn0
    split at he
    · rename_i e size len get hn
      split at he
      · rename_i c y hb
        simp only [Plan.eff, Option.some.injEq, Prod.mk.injEq] at he
        obtain ⟨rfl, rfl⟩ := he
        have hnp := hsub n _ hn
        have hrb := h.rb n _ hnp
        have hfz := h.freeze n
        obtain ⟨q, h1, h2⟩ := build_ok (β := β) (Z := fun b => Z b ∨ (∃ blk ln, hp n = some blk ∧ β n = .at b ln)) (w := w) hT ht (froze_ok (size := size) (len := len) (get := get) (fun x u hx => RA.mono hfz.ev h.calm (Ext.refl β) hx) (fun s l u hu => by
          cases hβ : β n with
          | no => rw [hβ] at hu; exact hu.elim
          | virt =>
            rw [hβ] at hu hrb
            obtain ⟨rfl, rfl⟩ := hu
            have h0 : len = 0 := hrb
            subst h0
            exact ⟨none, 0, rfl, Nat.le_refl _, fun h => absurd h (Nat.lt_irrefl 0)⟩
          | «at» b ln =>
            rw [hβ] at hu hrb
            obtain ⟨rfl, cap, rfl, q1, _⟩ := hu
            obtain ⟨rfl, cs, g1, g2, g3⟩ := hrb
            refine ⟨_, cap, rfl, q1, fun _ => ⟨b, 0, rfl, .inr ⟨_, _, hnp, rfl⟩, fun i hi j hj => ?_⟩⟩
            obtain ⟨u, hu, hr⟩ := g3 i hi j hj
            refine ⟨u, by rw [cell_of_heap g1, Nat.zero_add]; exact hu, ?_⟩
            have := RP.mono hfz.ev h.calm hr
            rw [hβ] at this
            exact this) hr) hb
        exact ⟨.value q, q, w, β, _, by simp [h1], .inl rfl, ⟨hfz.sat.weaken (fun n hn => hn.1), hfz.ev, hfz.ext, hfz.own, hfz.zown⟩, h2⟩
      · simp [Plan.eff] at he
    · simp [Plan.eff] at he
  · obtain ⟨c, y, e, e2⟩ := okBad_build.get he
    simp only [Prod.mk.injEq] at e2
    obtain ⟨rfl, rfl⟩ := e2
    exact OpOk.val h (build_ok hT ht hr e)

theorem noCallF_build {ti : TI} {l : List (Nat × AV)} : (∀ f a, planBuildF hp E ti l ≠ .call f a) ∧ ∀ n a, planBuildF hp E ti l ≠ .ycall n a := by
  have ob := fun l => okBad_build (E := E) (ti := ti) (l := l)
  unfold planBuildF
  split
  · split
    · split <;> simp
    · simp
  · have := ob l
    constructor
    · intro f a e; rw [e] at this; exact this
    · intro f a e; rw [e] at this; exact this

theorem ro_map (hg : GlOk E Z w) {tm : Nat → AV} {a : Act} (ht : ∀ t, RA β Z w (tm t) (a.tmps.getD t undef)) (o : Option Operand) : RO β Z w (o.map (evalO E tm)) (o.map a.eval) := by
  cases o with
  | none => trivial
  | some x => exact eval_ok hg ht x

theorem op_ok (hT : TabOk P E) (hM : MapsOk P E) (h : SatH E B Fr β Z hp w) (hB : B ≤ w.heap.size) {nm : Nat} (hf : Fr nm) {hpS : Nat → Option Blk} (hsub : ∀ n blk, hpS n = some blk → hp n = some blk)
    {tm : Nat → AV} {a : Act} (ht : ∀ t, RA β Z w (tm t) (a.tmps.getD t undef)) {o : Oper} {hp' : Nat → Option Blk} {v : AV}
    (hc : AllP (planOp E tm hpS o).conds) (he : (planOp E tm hpS o).eff nm hp = some (hp', v)) :
    OpOk P E B (fun n => Fr n ∧ n ≠ nm) β Z hp w (execOp a.eval o) hp' v := by
  have hrbS : ∀ n blk, hpS n = some blk → RB β Z w (β n) blk := fun n blk hn => h.rb n blk (hsub n blk hn)
  have ev := fun x => eval_ok h.gl ht x
  generalize hp0 : planOp E tm hpS o = p at hc he
  -- a plan that only computes
  have okCase : ∀ {s : Sem Value}, (∀ c y, p = .ok c y → AllP c → ∃ u, s.run P w = .ok u w ∧ RA β Z w y u) → okBad p → OpOk P E B (fun n => Fr n ∧ n ≠ nm) β Z hp w (do pure (.value (← s))) hp' v := by
    intro s hs hob
    obtain ⟨c, y, rfl, e⟩ := hob.get he
    simp only [Prod.mk.injEq] at e
    obtain ⟨rfl, rfl⟩ := e
    exact OpOk.val h (hs c _ rfl hc)
  have ret : ∀ u : Value, ((do pure (.value (← (pure u : Sem Value))) : Sem Next)) = pure (.value u) := fun u => pure_bind _ _
  unfold planOp at hp0
  dsimp only at hp0
  split at hp0
  case h_1 x hop =>
    rw [show execOp a.eval o = pure (.value (a.eval x)) by simp [execOp, hop], ← ret]
    refine okCase (fun c y e _ => ?_) (by rw [← hp0]; trivial)
    rw [← hp0] at e; injection e with e1 e2; subst e2
    exact ⟨_, rfl, ev x⟩
  case h_2 x hop =>
    rw [show execOp a.eval o = pure (.value (a.eval x)) by simp [execOp, hop], ← ret]
    refine okCase (fun c y e _ => ?_) (by rw [← hp0]; trivial)
    rw [← hp0] at e; injection e with e1 e2; subst e2
    exact ⟨_, rfl, ev x⟩
  case h_3 c x y hop =>
    split at hp0
    · rename_i t htr
      have hb := truth_ok (ev c) htr
      rw [show execOp a.eval o = pure (.value (if t then a.eval x else a.eval y)) by simp [execOp, hop, hb, asBool], ← ret]
      refine okCase (fun c' y' e _ => ?_) (by rw [← hp0]; trivial)
      rw [← hp0] at e; injection e with e1 e2; subst e2
      refine ⟨_, rfl, ?_⟩
      cases t
      · exact ev y
      · exact ev x
    · subst hp0; simp [Plan.eff] at he
  case h_4 t hop =>
    split at hp0
    · rename_i ti hti
      unfold need at hp0
      split at hp0
      · subst hp0
        simp only [Plan.eff, Option.some.injEq, Prod.mk.injEq] at he
        obtain ⟨rfl, rfl⟩ := he
        rw [show execOp a.eval o = (do pure (.value (← Instr.alloc t true (.tuple #[])))) by simp [execOp, hop]]
        exact OpOk.new h hB hf (alloc_ok hT hti)
      · subst hp0; simp [Plan.eff] at he
    · subst hp0; simp [Plan.eff] at he
  case h_5 t x hop =>
    have hx := ev x
    split at hp0
    · rename_i y hy
      subst hp0
      simp only [Plan.eff, Option.some.injEq, Prod.mk.injEq] at he
      obtain ⟨rfl, rfl⟩ := he
      rw [hy] at hx
      rw [show execOp a.eval o = (do pure (.value (← Instr.box t (a.eval x)))) by simp [execOp, hop]]
      exact OpOk.new h hB hf (box_ok (P := P) hx)
    · subst hp0; simp [Plan.eff] at he
  case h_6 t parts hop =>
    rw [show execOp a.eval o = (do pure (.value (← Instr.build t (parts.map fun (i, x) => (i, a.eval x))))) by simp [execOp, hop]]
    split at hp0
    · rename_i ti hti
      subst hp0
      exact buildF_ok hT h hsub hti (by simpa using parts_ok h.gl ht parts.toList) he
    · subst hp0; simp [Plan.eff] at he
  case h_7 t len parts hop =>
    rw [show execOp a.eval o = (do pure (.value (← Instr.buildSlice t len (parts.map fun (i, x) => (i, a.eval x))))) by simp [execOp, hop]]
    split at hp0
    · rename_i ti hti
      subst hp0
      obtain ⟨c, b, v', e1, e2⟩ := mkOnly_slice he
      simp only [Prod.mk.injEq] at e2
      obtain ⟨rfl, rfl⟩ := e2
      exact OpOk.new h hB hf (buildSlice_ok hT hti (by simpa using parts_ok h.gl ht parts.toList) e1)
    · subst hp0; simp [Plan.eff] at he
  case h_8 t x hop =>
    rw [show execOp a.eval o = (do pure (.value (← Instr.loadAt t (a.eval x)))) by simp [execOp, hop]]
    split at hp0
    · rename_i ti hti
      refine okCase (fun c y e hc' => ?_) (by rw [← hp0]; exact okBad_load)
      rw [← hp0] at e
      exact load_ok (hT t ti hti).1 (hT t ti hti).2 hrbS (ev x) e hc'
    · subst hp0; simp [Plan.eff] at he
  case h_9 t x y hop =>
    rw [show execOp a.eval o = (do Instr.storeAt t (a.eval x) (a.eval y); pure .skip) by simp [execOp, hop]]
    split at hp0
    · rename_i ti hti
      subst hp0
      exact storeF_ok h hsub hrbS (hT t ti hti).1 (ev x) (ev y) hc he
    · subst hp0; simp [Plan.eff] at he
  case h_10 x hop =>
    have hx := ev x
    split at hp0
    · rename_i n off hy
      rw [hy] at hx
      obtain ⟨b, ln, hb, e0⟩ := hx
      rw [show execOp a.eval o = pure (.value (a.eval x)) by simp [execOp, hop, e0], ← ret]
      refine okCase (fun c y e _ => ?_) (by rw [← hp0]; trivial)
      rw [← hp0] at e; injection e with e1 e2; subst e2
      exact ⟨_, rfl, hy ▸ ev x⟩
    · rename_i n sz i off hy
      rw [hy] at hx
      obtain ⟨b, ln, hb, e0, _⟩ := hx
      rw [show execOp a.eval o = pure (.value (a.eval x)) by simp [execOp, hop, e0], ← ret]
      refine okCase (fun c y e _ => ?_) (by rw [← hp0]; trivial)
      rw [← hp0] at e; injection e with e1 e2; subst e2
      exact ⟨_, rfl, hy ▸ ev x⟩
    · rename_i n get hy
      rw [hy] at hx
      obtain ⟨b, ln, e0, _⟩ := hx
      rw [show execOp a.eval o = pure (.value (a.eval x)) by simp [execOp, hop, e0], ← ret]
      refine okCase (fun c y e _ => ?_) (by rw [← hp0]; trivial)
      rw [← hp0] at e; injection e with e1 e2; subst e2
      exact ⟨_, rfl, hy ▸ ev x⟩
    · rename_i f sh first nc cap hy
      rw [hy] at hx
      obtain ⟨fs, cs, e0, _⟩ := hx
      rw [show execOp a.eval o = pure (.value (a.eval x)) by simp [execOp, hop, e0], ← ret]
      refine okCase (fun c y e _ => ?_) (by rw [← hp0]; trivial)
      rw [← hp0] at e; injection e with e1 e2; subst e2
      exact ⟨_, rfl, hy ▸ ev x⟩
    · rename_i n hy
      rw [hy] at hx
      obtain ⟨b, ln, hb, e0⟩ := hx
      rw [show execOp a.eval o = pure (.value (a.eval x)) by simp [execOp, hop, e0], ← ret]
      refine okCase (fun c y e _ => ?_) (by rw [← hp0]; trivial)
      rw [← hp0] at e; injection e with e1 e2; subst e2
      exact ⟨_, rfl, hy ▸ ev x⟩
    · subst hp0; simp [Plan.eff] at he
  case h_11 op t x y k hop =>
    rw [show execOp a.eval o = (do pure (.value (← (do eqGuard op t x y (a.eval x) (a.eval y); binOp op t (a.eval x) (a.eval y))))) by simp [execOp, hop]]
    split at hp0
    · rename_i ti hti
      refine okCase (fun c y' e hc' => ?_) (by rw [← hp0]; exact okBad_bin)
      rw [← hp0] at e
      exact bin_ok hT hti (ev x) (ev y) e hc' x y
    · subst hp0; simp [Plan.eff] at he
  case h_12 op t x hop =>
    rw [show execOp a.eval o = (do pure (.value (← Op.unary op (a.eval x)))) by simp [execOp, hop]]
    refine okCase (fun c y' e hc' => ?_) (by rw [← hp0]; exact okBad_un)
    rw [← hp0] at e
    exact un_ok (ev x) e hc'
  case h_13 src dst x hop =>
    rw [show execOp a.eval o = (do pure (.value (← convert src dst (a.eval x)))) by simp [execOp, hop]]
    split at hp0
    · rename_i t0 ti hsrc hti
      obtain ⟨i, d, z, hF⟩ := tabTI_spec (hT src t0 hsrc).1
      refine okCase (fun c y' e hc' => ?_) (by rw [← hp0]; exact okBad_conv)
      rw [← hp0] at e
      exact conv_ok hT hti ⟨d, hF.und⟩ (ev x) e hc'
    · subst hp0; simp [Plan.eff] at he
  case h_14 fn first cap hop =>
    rw [show execOp a.eval o = (do pure (.value (← (pure (.func fn (first.map a.eval) (cap.map a.eval)) : Sem Value)))) by simp [execOp, hop, Instr.makeFunc]]
    refine okCase (fun c y' e hc' => ?_) (by rw [← hp0]; exact okBad_func)
    rw [← hp0] at e
    exact ⟨_, rfl, func_ok h.gl ht e⟩
  case h_15 t hop =>
    rw [show execOp a.eval o = (do pure (.value (← Instr.makeMap t none))) by simp [execOp, hop]]
    split at hp0
    · rename_i T hT'
      subst hp0
      simp only [Plan.eff, Option.some.injEq, Prod.mk.injEq] at he
      obtain ⟨rfl, rfl⟩ := he
      refine ⟨.value (.map (some w.heap.size)), .map (some w.heap.size), w.alloc (.map #[] 0), _, Z, ?_, .inl rfl, h.mk_obj hB hf (ln := 0) ⟨#[], 0, heap_alloc_new w _, ⟨fun e he => by simp at he, fun ks x hx => by simp at hx, fun i j e e' hi => by simp at hi⟩⟩, w.heap.size, 0, upd_same _ _ _, rfl⟩
      simp [Instr.makeMap, newObj]
      rfl
    · subst hp0; simp [Plan.eff] at he
  case h_16 t l c hop =>
    rw [show execOp a.eval o = (do pure (.value (← Instr.makeSlice t (a.eval l) (a.eval c)))) by simp [execOp, hop]]
    split at hp0
    · rename_i ti hti
      subst hp0
      obtain ⟨c', b, v', e1, e2⟩ := mkOnly_make he
      simp only [Prod.mk.injEq] at e2
      obtain ⟨rfl, rfl⟩ := e2
      exact OpOk.new h hB hf (makeSlice_ok hT hti (ev l) (ev c) e1 (by rw [e1] at hc; exact hc))
    · subst hp0; simp [Plan.eff] at he
  case h_17 t x lo hi mx hop =>
    rw [show execOp a.eval o = (do pure (.value (← Instr.sliceAt t (a.eval x) (lo.map a.eval) (hi.map a.eval) (mx.map a.eval)))) by simp [execOp, hop]]
    split at hp0
    · rename_i ti hti
      subst hp0
      exact slice_ok hT h hsub hti (ev x) (ro_map h.gl ht lo) (ro_map h.gl ht hi) (ro_map h.gl ht mx) hc he
    · subst hp0; simp [Plan.eff] at he
  case h_18 t x f hop =>
    rw [show execOp a.eval o = (do pure (.value (← Instr.fieldAt t (a.eval x) f))) by simp [execOp, hop]]
    split at hp0
    · rename_i ti hti
      refine okCase (fun c y' e hc' => ?_) (by rw [← hp0]; exact okBad_fieldAddr)
      rw [← hp0] at e
      exact fieldAddr_ok hT hti (ev x) e
    · subst hp0; simp [Plan.eff] at he
  case h_19 t x f hop =>
    rw [show execOp a.eval o = (do pure (.value (← Instr.field t (a.eval x) f))) by simp [execOp, hop]]
    split at hp0
    · rename_i ti hti
      refine okCase (fun c y' e hc' => ?_) (by rw [← hp0]; exact okBad_field)
      rw [← hp0] at e
      exact field_ok hT hti (ev x) e
    · subst hp0; simp [Plan.eff] at he
  case h_20 t x i hop =>
    rw [show execOp a.eval o = (do pure (.value (← Instr.indexAt t (a.eval x) (a.eval i)))) by simp [execOp, hop]]
    split at hp0
    · rename_i ti hti
      refine okCase (fun c y' e hc' => ?_) (by rw [← hp0]; exact okBad_indexAddr)
      rw [← hp0] at e
      exact indexAddr_ok hT hti (ev x) (ev i) e hc'
    · subst hp0; simp [Plan.eff] at he
  case h_21 t x i hop =>
    rw [show execOp a.eval o = (do pure (.value (← Instr.index t (a.eval x) (a.eval i)))) by simp [execOp, hop]]
    split at hp0
    · rename_i ti hti
      refine okCase (fun c y' e hc' => ?_) (by rw [← hp0]; exact okBad_index)
      rw [← hp0] at e
      exact index_ok hT hti (ev x) (ev i) e hc'
    · subst hp0; simp [Plan.eff] at he
  case h_22 x i hop =>
    have hx := ev x
    split at hp0
    · rename_i l hl
      rw [hl] at hx
      obtain ⟨vs, e0, hsz, hvs⟩ := hx
      split at hp0
      · rename_i y hy
        obtain ⟨u, hu, hr⟩ := hvs i y hy
        rw [show execOp a.eval o = (do pure (.value (← (pure u : Sem Value)))) by simp [execOp, hop, e0, Instr.extract, hu]]
        refine okCase (fun c y' e hc' => ?_) (by rw [← hp0]; trivial)
        rw [← hp0] at e; injection e with e1 e2; subst e2
        exact ⟨_, rfl, hr⟩
      · subst hp0; simp [Plan.eff] at he
    · subst hp0; simp [Plan.eff] at he
  case h_23 c hop =>
    have hex : execOp a.eval o = (do let d ← resolve a.eval c o.type; invoke d.target d.args) := by simp [execOp, hop]
    rw [hex]
    unfold planCall at hp0
    split at hp0
    · rename_i hcal
      split at hp0
      · rename_i x t hx ht'
        have e1 := arr_one hx
        have e2 := arr_one ht'
        split at hp0
        · rename_i ti hti
          rw [show (do let d ← resolve a.eval c o.type; invoke d.target d.args : Sem Next) = (do pure (.value (← Builtin.len_ #[t] o.type #[a.eval x]))) by simp [resolve, hcal, e1, e2, invoke, builtin]]
          refine okCase (fun c' y' e hc' => ?_) (by rw [← hp0]; exact okBad_len)
          rw [← hp0] at e
          exact len_ok hT hti (ev x) e
        · subst hp0; simp [Plan.eff] at he
      · subst hp0; simp [Plan.eff] at he
    · rename_i hcal
      split at hp0
      · rename_i x y t t' hx ht'
        have e1 := arr_two hx
        have e2 := arr_two ht'
        unfold need at hp0
        split at hp0
        · rename_i hbeq
          obtain rfl : t = t' := Nat.eq_of_beq_eq_true hbeq
          split at hp0
          · rename_i ti hti
            rw [show (do let d ← resolve a.eval c o.type; invoke d.target d.args : Sem Next) = (do pure (.value (← Builtin.append_ #[t, t] o.type #[a.eval x, a.eval y]))) by simp [resolve, hcal, e1, e2, invoke, builtin]]
            subst hp0
            exact append_ok hT h hB hf hsub hti (ev x) (ev y) hc he
          · subst hp0; simp [Plan.eff] at he
        · subst hp0; simp [Plan.eff] at he
      · subst hp0; simp [Plan.eff] at he
    · rename_i hcal
      rw [show (do let d ← resolve a.eval c o.type; invoke d.target d.args : Sem Next) = (do pure (.value (← Builtin.min_ c.argTypes o.type (c.args.map a.eval)))) by simp [resolve, hcal, invoke, builtin]]
      refine okCase (fun c' y' e hc' => ?_) (by rw [← hp0]; exact okBad_mm)
      rw [← hp0] at e
      obtain ⟨q0, rest, q, h1, h2, h3⟩ := mm_ok (β := β) (Z := Z) (P := P) (w := w) (g := Builtin.min2) (fun k a b => rfl) (r := (c.args.map a.eval).toList) (fun x hx => by rw [args_eq]; exact args_ok h.gl ht hx) e
      exact ⟨q, by rw [Builtin.min_, h1]; exact h2, h3⟩
    · rename_i hcal
      rw [show (do let d ← resolve a.eval c o.type; invoke d.target d.args : Sem Next) = (do pure (.value (← Builtin.max_ c.argTypes o.type (c.args.map a.eval)))) by simp [resolve, hcal, invoke, builtin]]
      refine okCase (fun c' y' e hc' => ?_) (by rw [← hp0]; exact okBad_mm)
      rw [← hp0] at e
      obtain ⟨q0, rest, q, h1, h2, h3⟩ := mm_ok (β := β) (Z := Z) (P := P) (w := w) (g := Builtin.max2) (fun k a b => rfl) (r := (c.args.map a.eval).toList) (fun x hx => by rw [args_eq]; exact args_ok h.gl ht hx) e
      exact ⟨q, by rw [Builtin.max_, h1]; exact h2, h3⟩
    · split at hp0
      · subst hp0; simp [Plan.eff] at he
      · subst hp0; simp [Plan.eff] at he
      · subst hp0; simp [Plan.eff] at he
    · subst hp0; simp [Plan.eff] at he
  case h_24 t x k ok hop =>
    rw [show execOp a.eval o = (do pure (.value (← Instr.lookup t (a.eval x) (a.eval k) ok))) by simp [execOp, hop]]
    split at hp0
    · rename_i T hT'
      refine okCase (fun c y e hc' => ?_) (by rw [← hp0]; exact okBad_lookup)
      rw [← hp0] at e
      exact lookup_ok (hM t T hT') hrbS (ev x) (ev k) e hc'
    · subst hp0; simp [Plan.eff] at he
  case h_25 t x k y hop =>
    rw [show execOp a.eval o = (do Instr.mapUpdate t (a.eval x) (a.eval k) (a.eval y); pure .skip) by simp [execOp, hop]]
    split at hp0
    · rename_i T hT'
      subst hp0
      obtain ⟨c, n, b, e1, e2⟩ := wrOnly_upd he
      simp only [Prod.mk.injEq] at e2
      obtain ⟨rfl, rfl⟩ := e2
      obtain ⟨w', hr, hl⟩ := upd_ok (hM t T hT') h hsub (ev x) (ev k) (ev y) e1 (by rw [e1] at hc; exact hc)
      exact ⟨.skip, undef, _, β, Z, by simp [hr], .inr ⟨rfl, rfl⟩, ⟨hl.sat.weaken (fun n hn => hn.1), hl.ev, hl.ext, hl.own, hl.zown⟩, trivial⟩
    · subst hp0; simp [Plan.eff] at he
  case h_26 => subst hp0; simp [Plan.eff] at he
end
end Go.Sx
