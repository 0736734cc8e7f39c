/- The framework Sx, part 3b: the steps that only compute. -/
import Derived.Test.YthcplmlkgaiggaaSxOps
set_option linter.unusedSimpArgs false
set_option linter.unusedVariables false
namespace Go.Sx
section
variable {P : Program} {E : Env} {β : Nat → Loc} {Z : Nat → Prop} {w : World}

/-- The table of types is the program's. -/
def TabOk (P : Program) (E : Env) : Prop := ∀ t ti, E.ty t = some ti → tabTI P t = some ti ∧ ti.kind ≠ .other

/-- The package variables read as told. -/
def GlOk (E : Env) (Z : Nat → Prop) (w : World) : Prop := ∀ g n get, E.gl g = some (n, get) → Z g ∧ ∀ j, j < n → ∃ u, w.cell? ⟨g, j, none⟩ = some u ∧ RP Z w (get j) u

theorem eval_ok (hg : GlOk E Z w) {tm : Nat → AV} {a : Act} (ht : ∀ t, RA β Z w (tm t) (a.tmps.getD t undef)) (x : Operand) : RA β Z w (evalO E tm x) (a.eval x) := by
  cases x with
  | tmp t => exact ht t
  | const v =>
    simp only [evalO, Act.eval]
    split
    · rename_i y hy; exact RC.of_RP (RC.lit hy)
    · trivial
  | global g =>
    simp only [evalO, Act.eval]
    split
    · rename_i n get h
      obtain ⟨h1, h2⟩ := hg g n get h
      exact RC.of_RP (β := β) (x := .ip n get) ⟨g, 0, rfl, h1, fun j hj => by simpa using h2 j hj⟩
    · trivial
  | func f =>
    simp only [evalO, Act.eval]
    exact ⟨#[], #[], rfl, rfl, rfl, fun i hi => absurd hi (Nat.not_lt_zero _), fun i s hs => by simp at hs⟩

theorem fieldAt_spec (hT : TabOk P E) {t : Nat} {ti : TI} (ht : E.ty t = some ti) {f fo fs : Nat} (h : fieldAt E ti f = some (fo, fs)) :
    ∃ (fl : Array Field) (x : Field), P.underlying t = some (.struct fl) ∧ fl[f]? = some x ∧ x.offset = fo ∧ (∀ w : World, (sizeOf x.type).run P w = .ok fs w) ∧ 1 ≤ fs := by
  obtain ⟨i, d, z, hF⟩ := tabTI_spec (hT t ti ht).1
  unfold fieldAt at h
  split at h
  · rename_i fo' ft hfo
    unfold fieldOff at hfo
    split at hfo
    · rename_i l f hk
      obtain ⟨fl, rfl, rfl, _, _, _⟩ := hF.struct hk
      split at h
      · rename_i ti2 h2
        obtain ⟨i2, d2, z2, hF2⟩ := tabTI_spec (hT ft ti2 h2).1
        split at h
        · rename_i hble
          simp only [Option.some.injEq, Prod.mk.injEq] at h
          obtain ⟨rfl, rfl⟩ := h
          simp only [List.getElem?_map, Array.getElem?_toList, Option.map_eq_some_iff, Prod.mk.injEq] at hfo
          obtain ⟨x, hx, rfl, rfl⟩ := hfo
          exact ⟨fl, x, hF.und, hx, rfl, fun w => hF2.run_size, Nat.le_of_ble_eq_true hble⟩
        · simp at h
      · simp at h
    · simp at hfo
  · simp at h

theorem fieldAddr_run (hT : TabOk P E) {t : Nat} {ti : TI} (ht : E.ty t = some ti) {f fo fs : Nat} (h : fieldAt E ti f = some (fo, fs)) (b o : Nat) :
    (Instr.fieldAt t (.pointer (some ⟨b, o, none⟩)) f).run P w = .ok (.pointer (some ⟨b, o + fo, none⟩)) w := by
  obtain ⟨fl, x, h1, h2, h3, h4, h5⟩ := fieldAt_spec hT ht h
  have hne : ¬ fs = 0 := by omega
  simp [Instr.fieldAt, run_underlying h1, h2, Instr.sureAddr, fieldPlace, h4, hne, addr_add, h3]

theorem fieldAddr_ok (hT : TabOk P E) {t : Nat} {ti : TI} (ht : E.ty t = some ti) {f : Nat} {x : AV} {v : Value} (hx : RA β Z w x v) {c : List Prop} {y : AV}
    (h : planFieldAddr E ti f x = .ok c y) : ∃ u, (Instr.fieldAt t v f).run P w = .ok u w ∧ RA β Z w y u := by
  unfold planFieldAddr Plan.cell at h
  split at h
  · obtain ⟨b, ln, hb, rfl⟩ := hx
    split at h
    · rename_i fo fs hf
      simp at h; obtain ⟨rfl, rfl⟩ := h
      exact ⟨_, fieldAddr_run hT ht hf b _, b, ln, hb, rfl⟩
    · simp at h
  · obtain ⟨b, ln, hb, rfl, hi⟩ := hx
    split at h
    · rename_i fo fs hf
      simp at h; obtain ⟨rfl, rfl⟩ := h
      exact ⟨_, fieldAddr_run hT ht hf b _, b, ln, hb, by rw [Nat.add_assoc], hi⟩
    · simp at h
  · obtain ⟨b, ln, hb, rfl, hi⟩ := hx
    split at h
    · rename_i fo fs hf
      simp at h; obtain ⟨rfl, rfl⟩ := h
      exact ⟨_, fieldAddr_run hT ht hf b _, b, ln, hb, by rw [Nat.add_assoc], hi⟩
    · simp at h
  · rename_i m get
    obtain ⟨b, o, rfl, hz, hg⟩ := hx
    split at h
    · rename_i fo fs hf
      obtain ⟨hble, h⟩ := need_ok h (by simp)
      simp at h; obtain ⟨rfl, rfl⟩ := h
      have hle : fo ≤ m := Nat.le_of_ble_eq_true hble
      refine ⟨_, fieldAddr_run hT ht hf b _, b, o + fo, rfl, hz, fun j hj => ?_⟩
      obtain ⟨u, hu, hr⟩ := hg (j + fo) (by omega)
      exact ⟨u, by rw [Nat.add_assoc, Nat.add_comm fo j]; exact hu, by rw [shift_eq]; exact hr⟩
    · simp at h
  · simp at h

/-- A part of a value that lies in temporaries. -/
theorem part_ok {t : Nat} {ti : TI} {i : TypeInfo} {d : TypeDesc} {z : Value} (hF : TyF P t ti i d z) (ho : ti.kind ≠ .other) {cs : Array Value} {off : Nat} {get : Nat → CV}
    (hle : off + ti.size ≤ cs.size) (h : ∀ j, j < ti.size → ∃ u, cs[off + j]? = some u ∧ RC β Z w (get j) u) :
    ∃ u, (part t cs off).run P w = .ok u w ∧ RT β Z w (mkTV ti get) u := by
  unfold part
  simp only [Sem.run_bind, hF.run_isAgg ho, Result.andThen_ok]
  cases hA : ti.isAgg with
  | true =>
    refine ⟨.agg (cs.extract off (off + ti.size)), by simp [hF.run_size], ?_⟩
    simp only [mkTV, hA, if_true]
    refine ⟨_, rfl, by simp; omega, fun j hj => ?_⟩
    obtain ⟨u, hu, hr⟩ := h j hj
    refine ⟨u, ?_, hr⟩
    rw [Array.getElem?_extract_of_lt (by omega), ← hu, Array.getElem?_eq_getElem (by omega)]
  | false =>
    obtain ⟨u, hu, hr⟩ := h 0 (by have := hF.one hA; omega)
    simp only [Nat.add_zero] at hu
    exact ⟨u, by simp [hu], by simp only [mkTV, hA, Bool.false_eq_true, if_false]; exact hr⟩

theorem field_ok (hT : TabOk P E) {t : Nat} {ti : TI} (ht : E.ty t = some ti) {f : Nat} {x : AV} {v : Value} (hx : RA β Z w x v) {c : List Prop} {y : AV}
    (h : planField E ti f x = .ok c y) : ∃ u, (Instr.field t v f).run P w = .ok u w ∧ RA β Z w y u := by
  obtain ⟨i, d, z, hF⟩ := tabTI_spec (hT t ti ht).1
  unfold planField at h
  split at h
  · rename_i n get
    obtain ⟨cs, rfl, h1, h2⟩ := hx
    split at h
    · rename_i fo ft hfo
      unfold fieldOff at hfo
      split at hfo
      · rename_i l f hk
        obtain ⟨fl, rfl, rfl, _, _, _⟩ := hF.struct hk
        split at h
        · rename_i ti2 h2'
          obtain ⟨i2, d2, z2, hF2⟩ := tabTI_spec (hT ft ti2 h2').1
          obtain ⟨hble, h⟩ := need_ok h (by simp)
          simp at h; obtain ⟨rfl, rfl⟩ := h
          have hle : fo + ti2.size ≤ n := Nat.le_of_ble_eq_true hble
          simp only [List.getElem?_map, Array.getElem?_toList, Option.map_eq_some_iff, Prod.mk.injEq] at hfo
          obtain ⟨x, hx', rfl, rfl⟩ := hfo
          obtain ⟨u, hu, hr⟩ := part_ok (β := β) (Z := Z) (w := w) hF2 (hT _ _ h2').2 (cs := cs) (off := x.offset) (get := shift get x.offset) (by omega) (fun j hj => by
            obtain ⟨u, hu, hr⟩ := h2 (j + x.offset) (by omega)
            exact ⟨u, by rw [Nat.add_comm]; exact hu, by rw [shift_eq]; exact hr⟩)
          refine ⟨u, ?_, hr⟩
          simp [Instr.field, hF.run_und, hx', asAgg, hu]
        · simp at h
      · simp at hfo
    · simp at h
  · simp at h

theorem int_of {k : IntKind} {n : Int} {v : Value} (h : RA β Z w (.t (.c (.int k n))) v) : v = .int k n := h

theorem run_indexAt_slice' {t e : Nat} (h : P.underlying t = some (.slice e)) {sz : Nat} (hs : ∀ w : World, (sizeOf e).run P w = .ok sz w) (a : Addr) (len cap : Nat) (k : IntKind) (n : Int) (h0 : 0 ≤ n) (h1 : n < len) :
    (Instr.indexAt t (.slice (some a) len cap) (.int k n)).run P w = .ok (.pointer (some (a.add (n.toNat * sz)))) w := by
  simp [Instr.indexAt, asIntOf, run_underlying h, h0, h1, hs]

theorem run_indexAt_array' {t e l : Nat} (h : P.underlying t = some (.array l e)) {sz : Nat} (hs : ∀ w : World, (sizeOf e).run P w = .ok sz w) (a : Addr) (k : IntKind) (n : Int) (h0 : 0 ≤ n) (h1 : n < l) :
    (Instr.indexAt t (.pointer (some a)) (.int k n)).run P w = .ok (.pointer (some (a.add (n.toNat * sz)))) w := by
  simp [Instr.indexAt, asIntOf, run_underlying h, h0, h1, hs, Instr.sureAddr]

theorem indexAddr_ok (hT : TabOk P E) {t : Nat} {ti : TI} (ht : E.ty t = some ti) {x y : AV} {v u : Value} (hx : RA β Z w x v) (hy : RA β Z w y u) {c : List Prop} {r : AV}
    (h : planIndexAddr E ti x y = .ok c r) (hc : AllP c) : ∃ q, (Instr.indexAt t v u).run P w = .ok q w ∧ RA β Z w r q := by
  obtain ⟨i, d, z, hF⟩ := tabTI_spec (hT t ti ht).1
  unfold planIndexAddr Plan.cell at h
  split at h
  · rename_i k n
    obtain rfl := int_of hy
    split at h
    · rename_i e size len get hk
      obtain rfl := hF.slice hk
      split at h
      · rename_i te hte
        obtain ⟨i2, d2, z2, hF2⟩ := tabTI_spec (hT e te hte).1
        obtain ⟨hb, h⟩ := need_ok h (by simp)
        simp at h; obtain ⟨rfl, rfl⟩ := h
        have hsz : te.size = size := Nat.eq_of_beq_eq_true hb
        subst hsz
        obtain ⟨h0, h1, _⟩ := hc
        obtain ⟨a, cap, rfl, hl, hg⟩ := hx
        obtain ⟨b, o, rfl, hz, hcell⟩ := hg (by omega)
        refine ⟨_, run_indexAt_slice' hF.und (fun w => hF2.run_size) _ _ _ _ _ h0 h1, ?_⟩
        rw [addr_add]
        refine ⟨b, _, rfl, hz, fun j hj => ?_⟩
        obtain ⟨u, hu, hr⟩ := hcell n.toNat (by omega) j hj
        exact ⟨u, by rw [Nat.add_assoc]; exact hu, hr⟩
      · simp at h
    · rename_i e m size len hk
      obtain rfl := hF.slice hk
      split at h
      · rename_i te hte
        obtain ⟨i2, d2, z2, hF2⟩ := tabTI_spec (hT e te hte).1
        obtain ⟨hb, h⟩ := need_ok h (by simp)
        simp at h; obtain ⟨rfl, rfl⟩ := h
        have hsz : te.size = size := Nat.eq_of_beq_eq_true hb
        subst hsz
        obtain ⟨h0, h1, _⟩ := hc
        have hx' : ROs w (β m) te.size len v := hx
        cases hβ : β m with
        | no => rw [hβ] at hx'; exact hx'.elim
        | virt => rw [hβ] at hx'; obtain ⟨_, rfl⟩ := hx'; omega
        | «at» b ln =>
          rw [hβ] at hx'
          obtain ⟨rfl, cap, rfl, hl, _⟩ := hx'
          refine ⟨_, run_indexAt_slice' hF.und (fun w => hF2.run_size) _ _ _ _ _ h0 h1, ?_⟩
          rw [addr_add]
          exact ⟨b, ln, hβ, by simp, by omega⟩
      · simp at h
    · rename_i len e m off hk
      obtain ⟨rfl, hgd⟩ := hF.array hk
      split at h
      · rename_i te hte
        obtain ⟨i2, d2, z2, hF2⟩ := tabTI_spec (hT e te hte).1
        simp at h; obtain ⟨rfl, rfl⟩ := h
        obtain ⟨h0, h1, _⟩ := hc
        obtain ⟨b, ln, hb, rfl⟩ := hx
        refine ⟨_, run_indexAt_array' hF.und (fun w => hF2.run_size) _ _ _ h0 h1, ?_⟩
        rw [addr_add]
        exact ⟨b, ln, hb, rfl, by omega⟩
      · simp at h
    · rename_i len e m get hk
      obtain ⟨rfl, hgd⟩ := hF.array hk
      split at h
      · rename_i te hte
        obtain ⟨i2, d2, z2, hF2⟩ := tabTI_spec (hT e te hte).1
        obtain ⟨hble, h⟩ := need_ok h (by simp)
        simp at h; obtain ⟨rfl, rfl⟩ := h
        have hle : len * te.size ≤ m := Nat.le_of_ble_eq_true hble
        obtain ⟨h0, h1, _⟩ := hc
        obtain ⟨b, o, rfl, hz, hg⟩ := hx
        refine ⟨_, run_indexAt_array' hF.und (fun w => hF2.run_size) _ _ _ h0 h1, ?_⟩
        rw [addr_add]
        refine ⟨b, _, rfl, hz, fun j hj => ?_⟩
        have hn : (n.toNat + 1) * te.size ≤ len * te.size := Nat.mul_le_mul_right _ (by omega)
        rw [Nat.add_mul, Nat.one_mul] at hn
        obtain ⟨u, hu, hr⟩ := hg (n.toNat * te.size + j) (by omega)
        exact ⟨u, by rw [Nat.add_assoc]; exact hu, hr⟩
      · simp at h
    · simp at h
  · simp at h

theorem index_ok (hT : TabOk P E) {t : Nat} {ti : TI} (ht : E.ty t = some ti) {x y : AV} {v u : Value} (hx : RA β Z w x v) (hy : RA β Z w y u) {c : List Prop} {r : AV}
    (h : planIndex E ti x y = .ok c r) (hc : AllP c) : ∃ q, (Instr.index t v u).run P w = .ok q w ∧ RA β Z w r q := by
  obtain ⟨i, d, z, hF⟩ := tabTI_spec (hT t ti ht).1
  unfold planIndex Plan.cell at h
  split at h
  · rename_i k n
    obtain rfl := int_of hy
    split at h
    · rename_i len e m get hk
      obtain ⟨rfl, hgd⟩ := hF.array hk
      split at h
      · rename_i te hte
        obtain ⟨i2, d2, z2, hF2⟩ := tabTI_spec (hT e te hte).1
        obtain ⟨hble, h⟩ := need_ok h (by simp)
        simp at h; obtain ⟨rfl, rfl⟩ := h
        have hle : len * te.size ≤ m := Nat.le_of_ble_eq_true hble
        obtain ⟨h0, h1, _⟩ := hc
        obtain ⟨cs, rfl, g1, g2⟩ := hx
        have hn : (n.toNat + 1) * te.size ≤ len * te.size := Nat.mul_le_mul_right _ (by omega)
        rw [Nat.add_mul, Nat.one_mul] at hn
        obtain ⟨q, hq, hr⟩ := part_ok (β := β) (Z := Z) (w := w) hF2 (hT _ _ hte).2 (cs := cs) (off := n.toNat * te.size) (get := fun j => get (n.toNat * te.size + j)) (by omega) (fun j hj => g2 _ (by omega))
        refine ⟨q, ?_, hr⟩
        simp [Instr.index, asIntOf, hF.run_und, h0, h1, hF2.run_size, hq]
      · simp at h
    · rename_i s hk
      obtain rfl := hF.str hk
      simp at h; obtain ⟨rfl, rfl⟩ := h
      obtain ⟨h0, h1, _⟩ := hc
      obtain rfl : v = .string s := hx
      have hlt : n.toNat < s.size := by omega
      refine ⟨.int .u8 (s[n.toNat]'hlt).toNat, ?_, ?_⟩
      · simp [Instr.index, asIntOf, hF.run_und, h0, hlt]
      · have hl : n.toNat < s.data.size := hlt
        have e : s.data[n.toNat]? = some (s[n.toNat]'hlt) := by rw [Array.getElem?_eq_getElem hl]; rfl
        show Value.int _ _ = Value.int _ _
        simp [e]
    · simp at h
  · simp at h

/-! ### Numbers, bools -/

theorem range_wrap {k : IntKind} {n : Int} (h : inRange k n) : k.wrap n = n := by
  unfold inRange at h
  obtain ⟨h1, h2⟩ := h
  have hb : 1 ≤ k.bits := by cases k <;> decide
  unfold IntKind.wrap
  unfold IntKind.min at h1
  unfold IntKind.max at h2
  cases k <;> simp [IntKind.signed, IntKind.bits] at h1 h2 ⊢ <;> omega

theorem shl_ok {a b : Int} {t : Nat} (h1 : 0 ≤ b) (h2 : b ≤ 64) (h3 : inRange .i64 (a * 2 ^ b.toNat)) : (binOp .shl t (.int .i64 a) (.int .i64 b)).run P w = .ok (.int .i64 (a * 2 ^ b.toNat)) w := by
  have e : min b.toNat (IntKind.bits .i64) = b.toNat := by
    have : IntKind.bits .i64 = 64 := rfl
    rw [this]; omega
  have hb : ¬ b < 0 := by omega
  simp [binOp, Op.shift, hb, e, range_wrap h3]

theorem toNat_ofInt {n : Nat} {a : Int} (h0 : 0 ≤ a) (h : a < 2 ^ n) : (BitVec.ofInt n a).toNat = a.toNat := by
  rw [BitVec.toNat_ofInt]
  have : ((2 ^ n : Nat) : Int) = 2 ^ n := by simp
  rw [this, Int.emod_eq_of_lt h0 h]

theorem and_ok {k : IntKind} {a b : Int} {t : Nat} (h1 : 0 ≤ a) (h2 : 0 ≤ b) (h3 : inRange k a) (h4 : inRange k b) : (binOp .and t (.int k a) (.int k b)).run P w = .ok (.int k ((a.toNat &&& b.toNat : Nat) : Int)) w := by
  have top : ∀ {x : Int}, 0 ≤ x → inRange k x → x < 2 ^ k.bits := fun {x} h0 h => by
    have h2 := h.2
    unfold IntKind.max at h2
    cases k <;> simp [IntKind.signed, IntKind.bits] at h2 ⊢ <;> omega
  have hr : inRange k ((a.toNat &&& b.toNat : Nat) : Int) := by
    have hle := Nat.and_le_left (n := a.toNat) (m := b.toNat)
    refine ⟨?_, ?_⟩
    · have : k.min ≤ 0 := by cases k <;> decide
      exact Int.le_trans this (Int.natCast_nonneg _)
    · refine Int.le_trans ?_ h3.2
      omega
  simp [binOp, Op.intBits, toNat_ofInt h1 (top h1 h3), toNat_ofInt h2 (top h2 h4), range_wrap hr]

theorem intOp_ok {op : BinOp} {k : IntKind} {a b : Int} {t : Nat} {c : List Prop} {y : AV} (h : intOp op k a b = .ok c y) (hc : AllP c) :
    ∃ q, (binOp op t (.int k a) (.int k b)).run P w = .ok q w ∧ RA β Z w y q := by
  unfold intOp Plan.cell at h
  split at h
  · simp at h; obtain ⟨rfl, rfl⟩ := h; exact ⟨_, by simp [binOp, Op.intArith, range_wrap hc.1], rfl⟩
  · simp at h; obtain ⟨rfl, rfl⟩ := h; exact ⟨_, by simp [binOp, Op.intArith, range_wrap hc.1], rfl⟩
  · simp at h; obtain ⟨rfl, rfl⟩ := h; exact ⟨_, by simp [binOp, Op.intArith, range_wrap hc.1], rfl⟩
  · simp at h; obtain ⟨rfl, rfl⟩ := h; exact ⟨_, by simp [binOp, Op.intDiv, range_wrap hc.2.1, hc.1], rfl⟩
  · simp at h; obtain ⟨rfl, rfl⟩ := h; exact ⟨_, by simp [binOp, Op.intDiv, hc.1], rfl⟩
  · simp at h; obtain ⟨rfl, rfl⟩ := h; exact ⟨_, by simp [binOp, Op.intCmp], rfl⟩
  · simp at h; obtain ⟨rfl, rfl⟩ := h; exact ⟨_, by simp [binOp, Op.intCmp], rfl⟩
  · simp at h; obtain ⟨rfl, rfl⟩ := h; exact ⟨_, by simp [binOp, Op.intCmp], rfl⟩
  · simp at h; obtain ⟨rfl, rfl⟩ := h; exact ⟨_, by simp [binOp, Op.intCmp], rfl⟩
  · simp at h; obtain ⟨rfl, rfl⟩ := h; exact ⟨_, by simp [binOp, Op.intCmp], rfl⟩
  · simp at h; obtain ⟨rfl, rfl⟩ := h; exact ⟨_, by simp [binOp, Op.intCmp], rfl⟩
  · split at h
    · simp at h; obtain ⟨rfl, rfl⟩ := h; exact ⟨_, shl_ok hc.1 hc.2.1 hc.2.2.1, rfl⟩
    · simp at h
  · simp at h; obtain ⟨rfl, rfl⟩ := h; exact ⟨_, and_ok hc.1 hc.2.1 hc.2.2.1 hc.2.2.2.1, rfl⟩
  · simp at h

theorem truth_ok {x : AV} {v : Value} (hx : RA β Z w x v) {b : Bool} (h : truth x = some b) : v = .bool b := by
  unfold truth at h
  split at h <;> simp at h <;> subst h <;> exact hx

theorem un_ok {op : UnOp} {x : AV} {v : Value} (hx : RA β Z w x v) {c : List Prop} {y : AV} (h : planUn op x = .ok c y) (hc : AllP c) :
    ∃ q, (Op.unary op v).run P w = .ok q w ∧ RA β Z w y q := by
  unfold planUn Plan.cell at h
  split at h <;> simp at h <;> obtain ⟨rfl, rfl⟩ := h
  · obtain rfl : v = .bool true := hx; exact ⟨_, by simp [Op.unary], rfl⟩
  · obtain rfl : v = .bool false := hx; exact ⟨_, by simp [Op.unary], rfl⟩
  · rename_i b; obtain rfl : v = .bool b := hx; exact ⟨_, by simp [Op.unary], rfl⟩
  · rename_i k a
    obtain rfl : v = .int k a := hx
    refine ⟨.int k (-a), ?_, rfl⟩
    have := range_wrap hc.1
    simp [Op.unary, Op.intArith, this]

theorem conv_ok (hT : TabOk P E) {t : Nat} {ti : TI} (ht : E.ty t = some ti) {src : Nat} (hs : ∃ d, P.underlying src = some d) {x : AV} {v : Value} (hx : RA β Z w x v) {c : List Prop} {y : AV} (h : planConv ti x = .ok c y) (hc : AllP c) :
    ∃ q, (convert src t v).run P w = .ok q w ∧ RA β Z w y q := by
  obtain ⟨i, d, z, hF⟩ := tabTI_spec (hT t ti ht).1
  obtain ⟨ds, hds⟩ := hs
  unfold planConv Plan.cell at h
  split at h
  · rename_i k k' a hk
    obtain rfl := hF.int hk
    simp at h; obtain ⟨rfl, rfl⟩ := h
    obtain rfl := int_of hx
    exact ⟨.int k a, by simp [convert, run_underlying hds, hF.run_und, Conv.intToInt, range_wrap hc.1], rfl⟩
  · rename_i s hk
    obtain rfl := hF.str hk
    simp at h; obtain ⟨rfl, rfl⟩ := h
    obtain rfl : v = .string s := hx
    exact ⟨.string s, by simp [convert, run_underlying hds, hF.run_und], rfl⟩
  · simp at h

theorem len_ok (hT : TabOk P E) {t : Nat} {ti : TI} (ht : E.ty t = some ti) {ty : Nat} {x : AV} {v : Value} (hx : RA β Z w x v) {c : List Prop} {y : AV} (h : planLen ti x = .ok c y) :
    ∃ q, (Builtin.len_ #[t] ty #[v]).run P w = .ok q w ∧ RA β Z w y q := by
  obtain ⟨i, d, z, hF⟩ := tabTI_spec (hT t ti ht).1
  unfold planLen Plan.cell at h
  split at h
  · rename_i e s len get hk
    obtain rfl := hF.slice hk
    simp at h; obtain ⟨rfl, rfl⟩ := h
    obtain ⟨a, cap, rfl, _⟩ := hx
    exact ⟨_, by simp [Builtin.len_, hF.run_und]; rfl, rfl⟩
  · rename_i e n s len hk
    obtain rfl := hF.slice hk
    simp at h; obtain ⟨rfl, rfl⟩ := h
    have hx' : ROs w (β n) s len v := hx
    cases hβ : β n with
    | no => rw [hβ] at hx'; exact hx'.elim
    | virt => rw [hβ] at hx'; obtain ⟨rfl, rfl⟩ := hx'; exact ⟨_, by simp [Builtin.len_, hF.run_und]; rfl, rfl⟩
    | «at» b ln =>
      rw [hβ] at hx'
      obtain ⟨rfl, cap, rfl, _⟩ := hx'
      exact ⟨_, by simp [Builtin.len_, hF.run_und]; rfl, rfl⟩
  · rename_i e hk
    obtain rfl := hF.slice hk
    simp at h; obtain ⟨rfl, rfl⟩ := h
    obtain rfl : v = .slice none 0 0 := hx
    exact ⟨_, by simp [Builtin.len_, hF.run_und]; rfl, rfl⟩
  · rename_i s hk
    obtain rfl := hF.str hk
    simp at h; obtain ⟨rfl, rfl⟩ := h
    obtain rfl : v = .string s := hx
    exact ⟨_, by simp [Builtin.len_, hF.run_und]; rfl, rfl⟩
  · rename_i n e x hk
    obtain ⟨rfl, hgd⟩ := hF.array hk
    simp at h; obtain ⟨rfl, rfl⟩ := h
    exact ⟨_, by simp [Builtin.len_, hF.run_und]; rfl, rfl⟩
  · simp at h

theorem kindNo_inj {a b : IntKind} (h : Nat.beq (kindNo a) (kindNo b) = true) : a = b := by
  cases a <;> cases b <;> first | rfl | (simp [kindNo] at h)

/-- The values of a list of arguments. -/
def RL (β : Nat → Loc) (Z : Nat → Prop) (w : World) : List TV → List Value → Prop
  | [], [] => True
  | x :: l, v :: r => RT β Z w x v ∧ RL β Z w l r
  | _, _ => False

theorem args_ok (hg : GlOk E Z w) {tm : Nat → AV} {a : Act} (ht : ∀ t, RA β Z w (tm t) (a.tmps.getD t undef)) : ∀ {l : List Operand} {r : List TV}, argTVs E tm l = some r → RL β Z w r (l.map a.eval)
  | [], r, h => by simp [argTVs] at h; subst h; trivial
  | o :: l, r, h => by
    simp only [argTVs] at h
    split at h
    · rename_i x r' h1 h2
      simp at h; subst h
      have := eval_ok hg ht o
      rw [h1] at this
      exact ⟨this, args_ok hg ht h2⟩
    · simp at h

theorem fold_ok {f : Int → Int → Int} {g : Value → Value → Sem Value} (hfg : ∀ k a b, g (.int k a) (.int k b) = pure (.int k (f a b))) {k : IntKind} : ∀ {l : List TV} {r : List Value} {a n : Int},
    RL β Z w l r → foldInts f k a l = some n → (r.foldlM g (.int k a)).run P w = .ok (.int k n) w
  | [], [], a, n, _, h => by simp [foldInts] at h; subst h; rfl
  | .c (.int k' b) :: l, v :: r, a, n, hr, h => by
    simp only [foldInts] at h
    split at h
    · rename_i hk
      obtain rfl := kindNo_inj hk
      obtain rfl : v = .int k' b := hr.1
      simp only [List.foldlM_cons, hfg, pure_bind]
      exact fold_ok hfg hr.2 h
    · simp at h
  | [], _ :: _, _, _, hr, _ => hr.elim
  | _ :: _, [], _, _, hr, _ => by cases ‹TV› <;> exact hr.elim
  | .a _ _ :: _, _ :: _, _, _, _, h => by simp [foldInts] at h
  | .c .any :: _, _ :: _, _, _, _, h => by simp [foldInts] at h
  | .c .tt :: _, _ :: _, _, _, _, h => by simp [foldInts] at h
  | .c .ff :: _, _ :: _, _, _, _, h => by simp [foldInts] at h
  | .c (.bool _) :: _, _ :: _, _, _, _, h => by simp [foldInts] at h
  | .c (.str _) :: _, _ :: _, _, _, _, h => by simp [foldInts] at h
  | .c .nilp :: _, _ :: _, _, _, _, h => by simp [foldInts] at h
  | .c .nils :: _, _ :: _, _, _, _, h => by simp [foldInts] at h
  | .c .nilm :: _, _ :: _, _, _, _, h => by simp [foldInts] at h
  | .c .nilf :: _, _ :: _, _, _, _, h => by simp [foldInts] at h
  | .c (.ptr _ _) :: _, _ :: _, _, _, _, h => by simp [foldInts] at h
  | .c (.ep _ _ _ _) :: _, _ :: _, _, _, _, h => by simp [foldInts] at h
  | .c (.ax _ _ _ _ _ _) :: _, _ :: _, _, _, _, h => by simp [foldInts] at h
  | .c (.ip _ _) :: _, _ :: _, _, _, _, h => by simp [foldInts] at h
  | .c (.vs _ _ _) :: _, _ :: _, _, _, _, h => by simp [foldInts] at h
  | .c (.os _ _ _) :: _, _ :: _, _, _, _, h => by simp [foldInts] at h
  | .c (.mp _) :: _, _ :: _, _, _, _, h => by simp [foldInts] at h
  | .c (.fn _ _ _ _ _) :: _, _ :: _, _, _, _, h => by simp [foldInts] at h
  | .c (.yl _) :: _, _ :: _, _, _, _, h => by simp [foldInts] at h

theorem mm_ok {f : Int → Int → Int} {g : Value → Value → Sem Value} (hfg : ∀ k a b, g (.int k a) (.int k b) = pure (.int k (f a b))) {l : Option (List TV)} {r : List Value} (hr : ∀ x, l = some x → RL β Z w x r)
    {c : List Prop} {y : AV} (h : planMM f l = .ok c y) : ∃ v rest q, r = v :: rest ∧ (rest.foldlM g v).run P w = .ok q w ∧ RA β Z w y q := by
  unfold planMM Plan.cell at h
  split at h
  · rename_i k a rest
    split at h
    · rename_i n hn
      simp at h; obtain ⟨rfl, rfl⟩ := h
      have hr := hr _ rfl
      cases r with
      | nil => exact hr.elim
      | cons v r =>
        obtain rfl : v = .int k a := hr.1
        exact ⟨_, r, .int k n, rfl, fold_ok hfg hr.2 hn, rfl⟩
    · simp at h
  · simp at h
end
end Go.Sx
