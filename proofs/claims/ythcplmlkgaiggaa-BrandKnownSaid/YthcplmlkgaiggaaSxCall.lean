/- The framework Sx, part 5: contracts, and a call of a function that has one. -/
import Derived.Test.YthcplmlkgaiggaaSxOp
set_option linter.unusedSimpArgs false
set_option linter.unusedVariables false
namespace Go.Sx

/-- Where a state of the heap is. -/
structure HS where
  β : Nat → Loc
  Z : Nat → Prop
  hp : Hp
  nx : Nat
  wl : List Nat
  w : World

def HS.ok (E : Env) (x : HS) : Prop := SatH E 0 (fun n => x.nx ≤ n) x.β x.Z x.hp x.w

/-- From one state to another. -/
structure Turn (x y : HS) : Prop where
  ev : Evo (Own x.β x.hp) x.Z x.w y.Z y.w
  ext : Ext x.β y.β
  own : ∀ b, Own y.β y.hp b → Own x.β x.hp b ∨ x.w.heap.size ≤ b
  zown : ∀ b, y.Z b → x.Z b ∨ Own x.β x.hp b ∨ x.w.heap.size ≤ b
  nx : x.nx ≤ y.nx
  wl : ∀ n, n ∈ x.wl → n ∈ y.wl
  frame : ∀ n, n < x.nx → n ∉ y.wl → y.hp n = x.hp n

theorem Turn.refl (x : HS) : Turn x x := ⟨Evo.refl _ _ _, Ext.refl _, fun _ h => .inl h, fun _ h => .inl h, Nat.le_refl _, fun _ h => h, fun _ _ _ => rfl⟩

theorem Turn.trans {x y z : HS} (h : Turn x y) (h' : Turn y z) : Turn x z := by
  refine ⟨h.ev.trans h'.ev h.own, h.ext.trans h'.ext, fun b hb => ?_, fun b hb => ?_, Nat.le_trans h.nx h'.nx, fun n hn => h'.wl n (h.wl n hn), fun n hn hw => ?_⟩
  · rcases h'.own b hb with h1 | h1
    · exact h.own b h1
    · exact .inr (Nat.le_trans h.ev.size h1)
  · rcases h'.zown b hb with h1 | h1 | h1
    · exact h.zown b h1
    · exact .inr (h.own b h1)
    · exact .inr (.inr (Nat.le_trans h.ev.size h1))
  · rw [h'.frame n (Nat.lt_of_lt_of_le hn h.nx) hw, h.frame n hn (fun hw' => hw (h'.wl n hw'))]

section
variable {P : Program} {E : Env} {β β' : Nat → Loc} {Z Z' : Nat → Prop} {hp : Hp} {w w' : World}

theorem Evo.zup {own : Nat → Prop} (h : ∀ b, Z b → Z' b) : Evo own Z w Z' w :=
  ⟨rfl, rfl, rfl, Nat.le_refl _, fun _ _ _ => rfl, fun _ cs _ h => ⟨cs, h, rfl⟩, fun _ r h => ⟨r, h, rfl, rfl, rfl, rfl, rfl, rfl⟩, h⟩

theorem RP.zup {x : CV} {v : Value} (hz : ∀ b, Z b → b < w.heap.size) (h : ∀ b, Z b → Z' b) (hv : RP Z w x v) : RP Z' w x v :=
  RP.mono (own := fun _ => False) (Evo.zup h) (fun b hb => ⟨hz b hb, fun h => h⟩) hv

/-- What a callee may read: what stays, and the rows it is handed. -/
def Zargs (β : Nat → Loc) (Z : Nat → Prop) (hp : Hp) (l : List Nat) : Nat → Prop := fun b => Z b ∨ ∃ n blk ln, n ∈ l ∧ hp n = some blk ∧ β n = .at b ln

theorem Zargs.mono {l l' : List Nat} (h : ∀ n, n ∈ l → n ∈ l') (b : Nat) (hb : Zargs β Z hp l b) : Zargs β Z hp l' b :=
  hb.elim .inl (fun ⟨n, blk, ln, h1, h2⟩ => .inr ⟨n, blk, ln, h n h1, h2⟩)

theorem Zargs.lt {Fr : Nat → Prop} {B : Nat} (h : SatH E B Fr β Z hp w) {l : List Nat} (b : Nat) (hb : Zargs β Z hp l b) : b < w.heap.size :=
  hb.elim (h.zlt b) (fun ⟨n, blk, ln, _, h2, h3⟩ => (h.own n blk b ln h2 h3).1)

theorem pureCV_ok {Fr : Nat → Prop} {B : Nat} (h : SatH E B Fr β Z hp w) {hpS : Hp} (hsub : ∀ n blk, hpS n = some blk → hp n = some blk) {l : List Nat} {x y : CV} {v : Value} (hx : RC β Z w x v) (hl : ∀ n, n ∈ ownCV x → n ∈ l) (hy : pureCV hpS x = some y) :
    RC β' (Zargs β Z hp l) w y v := by
  have hzl : ∀ b, Z b → Zargs β Z hp l b := fun b hb => .inl hb
  have pure_ : ∀ {x : CV}, isPure x = true → RC β Z w x v → RC β' (Zargs β Z hp l) w x v := fun hp1 h1 => RC.of_RP (RP.zup h.zlt hzl (RP.of_RC hp1 h1))
  unfold pureCV at hy
  split at hy
  · rename_i n sz ln0
    have hx' : ROs w (β n) sz ln0 v := hx
    split at hy
    · rename_i e size len get hn
      split at hy
      · rename_i hbeq
        obtain rfl := Nat.eq_of_beq_eq_true hbeq
        injection hy with hy; subst hy
        have hnp := hsub n _ hn
        have hrb := h.rb n _ hnp
        cases hβ : β n with
        | no => rw [hβ] at hx'; exact hx'.elim
        | virt =>
          rw [hβ] at hx' hrb
          obtain ⟨rfl, _⟩ := hx'
          have h0 : len = 0 := hrb
          subst h0
          exact ⟨none, 0, rfl, Nat.le_refl _, fun h => absurd h (Nat.lt_irrefl 0)⟩
        | «at» b ln =>
          rw [hβ] at hx' hrb
          obtain ⟨rfl, cap, rfl, q1, _⟩ := hx'
          obtain ⟨rfl, cs, g1, g2, g3⟩ := hrb
          refine ⟨some ⟨b, 0, none⟩, cap, rfl, q1, fun _ => ⟨b, 0, rfl, .inr ⟨n, _, _, hl n (by simp [ownCV]), hnp, hβ⟩, fun i hi j hj => ?_⟩⟩
          obtain ⟨u, hu, hr⟩ := g3 i hi j hj
          exact ⟨u, by rw [cell_of_heap g1, Nat.zero_add]; exact hu, RP.zup h.zlt hzl hr⟩
      · simp at hy
    · simp at hy
  · split at hy
    · rename_i hpu
      injection hy with hy; subst hy
      exact pure_ hpu hx
    · simp at hy

theorem pureGet_ok {Fr : Nat → Prop} {B : Nat} (h : SatH E B Fr β Z hp w) {hpS : Hp} (hsub : ∀ n blk, hpS n = some blk → hp n = some blk) {l : List Nat} {get : Nat → CV} : ∀ {n : Nat} {g : Nat → CV} {vs : Nat → Option Value},
    (∀ j, j < n → ∃ u, vs j = some u ∧ RC β Z w (get j) u) → (∀ m, m ∈ ownGet get n → m ∈ l) → pureGet hpS get n = some g → (∀ j, j < n → ∃ u, vs j = some u ∧ RC β' (Zargs β Z hp l) w (g j) u) ∧ ∀ j, n ≤ j → g j = get j
  | 0, g, vs, _, _, hg => by
    simp [pureGet] at hg; subst hg
    exact ⟨fun j hj => absurd hj (Nat.not_lt_zero _), fun _ _ => rfl⟩
  | n + 1, g, vs, hv, hl, hg => by
    have ih := fun {g} => pureGet_ok h hsub (get := get) (n := n) (g := g) (vs := vs) (fun j hj => hv j (by omega)) (fun m hm => hl m (by simp [ownGet, hm]))
    obtain ⟨u, hu, hr⟩ := hv n (by omega)
    unfold pureGet at hg
    split at hg
    · rename_i g0 e1 e2
      injection hg with hg; subst hg
      obtain ⟨i1, i2⟩ := ih e1
      refine ⟨fun j hj => ?_, fun j hj => i2 j (by omega)⟩
      by_cases hjn : j = n
      · subst hjn
        rw [i2 j (Nat.le_refl _)]
        exact ⟨u, hu, RC.of_RP (RP.zup h.zlt (fun b hb => .inl hb) (RP.of_RC e2 hr))⟩
      · exact i1 j (by omega)
    · rename_i g0 e1 e2
      split at hg
      · rename_i y hy
        injection hg with hg; subst hg
        obtain ⟨i1, i2⟩ := ih e1
        refine ⟨fun j hj => ?_, fun j hj => (if_neg (by omega : ¬ j = n)).trans (i2 j (by omega))⟩
        by_cases hjn : j = n
        · subst hjn
          simp only [if_true]
          exact ⟨u, hu, pureCV_ok h hsub hr (fun m hm => hl m (by simp [ownGet, hm])) hy⟩
        · simp only [hjn, if_false]
          exact i1 j (by omega)
      · simp at hg
    · simp at hg

theorem pureTV_ok {Fr : Nat → Prop} {B : Nat} (h : SatH E B Fr β Z hp w) {hpS : Hp} (hsub : ∀ n blk, hpS n = some blk → hp n = some blk) {l : List Nat} {x y : TV} {v : Value} (hx : RT β Z w x v) (hl : ∀ n, n ∈ ownTV x → n ∈ l) (hy : pureTV hpS x = some y) :
    RT β' (Zargs β Z hp l) w y v := by
  cases x with
  | c x =>
    simp only [pureTV] at hy
    split at hy
    · rename_i z hz
      injection hy with hy; subst hy
      exact pureCV_ok h hsub hx hl hz
    · simp at hy
  | a n get =>
    simp only [pureTV] at hy
    split at hy
    · rename_i g hg
      injection hy with hy; subst hy
      obtain ⟨cs, rfl, h1, h2⟩ := hx
      exact ⟨cs, rfl, h1, (pureGet_ok h hsub (vs := fun j => cs[j]?) h2 hl hg).1⟩
    · simp at hy

theorem pureTVs_ok {Fr : Nat → Prop} {B : Nat} (h : SatH E B Fr β Z hp w) {hpS : Hp} (hsub : ∀ n blk, hpS n = some blk → hp n = some blk) {l : List Nat} : ∀ {xs ys : List TV} {vs : List Value}, RL β Z w xs vs → (∀ n, n ∈ ownTVs xs → n ∈ l) → pureTVs hpS xs = some ys → RL β' (Zargs β Z hp l) w ys vs
  | [], ys, vs, hx, _, hy => by
    simp [pureTVs] at hy; subst hy
    cases vs with
    | nil => trivial
    | cons => exact hx.elim
  | x :: xs, ys, vs, hx, hl, hy => by
    cases vs with
    | nil => cases x <;> exact hx.elim
    | cons v vs =>
      simp only [pureTVs] at hy
      split at hy
      · rename_i y r h1 h2
        injection hy with hy; subst hy
        exact ⟨pureTV_ok h hsub hx.1 (fun n hn => hl n (by simp [ownTVs, hn])) h1, pureTVs_ok h hsub hx.2 (fun n hn => hl n (by simp [ownTVs, hn])) h2⟩
      · simp at hy

/-! ### Results -/

/-- **A contract**: called with values such as these, in whatever world, the function returns such as those; nothing that there was has turned. -/
def CallQ (P : Program) (E : Env) (f : FuncId) (args : List TV) (rs : List RV) : Prop :=
  ∀ (Z : Nat → Prop) (w : World) (vs : List Value), SatH E 0 (fun _ => True) (fun _ => .no) Z (fun _ => none) w → RL (fun _ => .no) Z w args vs →
    CallsIn Fence.wide 0 P f vs.toArray w fun e w' => ∃ val β' Z', e = .returned val ∧ SatH E 0 (fun n => ownCount rs ≤ n) β' Z' (resHp (fun _ => none) rs 0) w' ∧ RA β' Z' w' (resAV (resTVs rs 0)) val ∧
      Evo (fun _ => False) Z w Z' w' ∧ (∀ b, Own β' (resHp (fun _ => none) rs 0) b → w.heap.size ≤ b) ∧ (∀ b, Z' b → Z b ∨ w.heap.size ≤ b)

/-- What is said of a function that shares blocks with its callers: called where those are as they are said to be, it returns a row that is new, or one of theirs. -/
def SemRec (P : Program) (E : Env) (f : FuncId) (R : RSpec) (g : R.γ) : Prop :=
  ∀ (Z : Nat → Prop) (β : Nat → Loc) (w : World) (vs : List Value), SatH E 0 (fun m => lenR (R.hp g) ≤ m) β Z (canonHp (R.hp g)) w → RL β Z w (R.arg g) vs →
    CallsIn Fence.wide 0 P f vs.toArray w fun e w' => ∃ val l Z', e = .returned val ∧ RB (fun _ => .no) Z' w' l (.row R.e R.size (R.len g) (R.get g)) ∧ (∀ b ln, l = .at b ln → b < w'.heap.size ∧ ¬ Z' b ∧ (Own β (canonHp (R.hp g)) b ∨ w.heap.size ≤ b)) ∧
      ROs w' l R.size (R.len g) val ∧ Evo (Own β (canonHp (R.hp g))) Z w Z' w' ∧ (∀ b, Z' b → Z b ∨ Own β (canonHp (R.hp g)) b ∨ w.heap.size ≤ b) ∧ (∀ b, Z' b → b < w'.heap.size) ∧ GlOk E Z' w'

/-- What is said of a function that works on its callers' blocks and gives them back. -/
def SemK (P : Program) (E : Env) (f : FuncId) (R : KSpec) (g : R.γ) : Prop :=
  ∀ (Z : Nat → Prop) (β : Nat → Loc) (w : World) (vs : List Value), SatH E 0 (fun m => lenR (R.hp g) ≤ m) β Z (canonHp (R.hp g)) w → RL β Z w (R.arg g) vs →
    CallsIn Fence.wide 0 P f vs.toArray w fun e w' => ∃ val d Z', e = .returned val ∧ R.post g d ∧ lenB (R.fin g d) = lenR (R.hp g) ∧ (∀ m blk, canonB (R.fin g d) m = some blk → RB β Z' w' (β m) blk) ∧
      RA (fun _ => .no) Z' w' (resAV (R.res g d)) val ∧ Evo (Own β (canonHp (R.hp g))) Z w Z' w' ∧ (∀ b, Z' b → Z b ∨ w.heap.size ≤ b) ∧ (∀ b, Z' b → b < w'.heap.size) ∧ GlOk E Z' w'

/-- A function that leaves its callers' blocks such as they were. -/
def ESpec.toK (R : ESpec) : KSpec := { γ := R.γ, δ := Unit, ok := R.ok, arg := R.arg, hp := R.hp, post := fun _ _ => True, fin := fun g _ => (R.hp g).map Prod.snd, res := fun g _ => R.res g }

theorem flat_any {x : CV} (hx : isFlat x = true) {v : Value} (h : RC β Z w x v) : RC β' Z' w' x v ∧ RP Z' w' x v := by
  cases x <;> simp [isFlat] at hx <;> exact ⟨h, h⟩

theorem flatGet_get : ∀ {get : Nat → CV} {n : Nat}, flatGet get n = true → ∀ j, j < n → isFlat (get j) = true
  | get, 0, _, j, hj => absurd hj (Nat.not_lt_zero j)
  | get, n + 1, h, j, hj => by
    simp only [flatGet, Bool.and_eq_true] at h
    by_cases hjn : j = n
    · subst hjn; exact h.2
    · exact flatGet_get h.1 j (by omega)

theorem chk_iff {b : Bool} : chk b ↔ b = true := by cases b <;> simp [chk]

/-- How a result's value is carried over to other worlds' names. -/
inductive Carry (rs : List RV) (Z Z' : Nat → Prop) : Prop
  | pure (h : ∀ b, Z b → Z' b) (hp : pureRVs rs = true)
  | flat (h : flatRVs rs = true) (ho : AllP (flatOwns rs))

theorem resTVs_ok {m m' : Nat} : ∀ {rs : List RV} {k : Nat} {vs : Nat → Option Value}, Carry rs Z Z' → (∀ b, Z b → b < w.heap.size) → (∀ i, i < ownCount rs → β' (m' + i) = β (m + i)) →
    (∀ (i : Nat) (x : TV), (resTVs rs m)[i]? = some x → ∃ u, vs i = some u ∧ RT β Z w x u) → ∀ (i : Nat) (x : TV), (resTVs rs m')[i]? = some x → ∃ u, vs i = some u ∧ RT β' Z' w x u
  | [], k, vs, _, _, _, _, i, x, hx => by simp [resTVs] at hx
  | .v y :: l, k, vs, hc, hz, hb, h, i, x, hx => by
    have hc' : Carry l Z Z' := by
      cases hc with
      | pure h1 h2 => exact .pure h1 (by cases y <;> simp [pureRVs] at h2 <;> exact h2.2)
      | flat h1 h2 => exact .flat (by cases y <;> simp [flatRVs] at h1 <;> exact h1.2) h2
    cases i with
    | zero =>
      simp [resTVs] at hx; subst hx
      obtain ⟨u, hu, hr⟩ := h 0 y (by simp [resTVs])
      refine ⟨u, hu, ?_⟩
      cases hc with
      | pure h1 h2 =>
        cases y with
        | c q => simp [pureRVs] at h2; exact RC.of_RP (RP.zup hz h1 (RP.of_RC h2.1 hr))
        | a n g =>
          simp [pureRVs] at h2
          obtain ⟨cs, rfl, a1, a2⟩ := hr
          exact ⟨cs, rfl, a1, fun j hj => let ⟨u, hu, hr⟩ := a2 j hj; ⟨u, hu, RC.of_RP (RP.zup hz h1 (RP.of_RC (allPure_get h2.1 j hj) hr))⟩⟩
      | flat h1 h2 =>
        cases y with
        | c q => simp [flatRVs] at h1; exact (flat_any h1.1 hr).1
        | a n g =>
          simp [flatRVs] at h1
          obtain ⟨cs, rfl, a1, a2⟩ := hr
          exact ⟨cs, rfl, a1, fun j hj => let ⟨u, hu, hr⟩ := a2 j hj; ⟨u, hu, (flat_any (flatGet_get h1.1 j hj) hr).1⟩⟩
    | succ i =>
      simp only [resTVs, List.getElem?_cons_succ] at hx
      exact resTVs_ok (rs := l) (k := k) (vs := fun i => vs (i + 1)) hc' hz hb (fun i x hx => h (i + 1) x (by simpa [resTVs] using hx)) i x hx
  | .own e size len get :: l, k, vs, hc, hz, hb, h, i, x, hx => by
    have hc' : Carry l Z Z' := by
      cases hc with
      | pure h1 h2 => exact .pure h1 (by simpa [pureRVs] using h2)
      | flat h1 h2 => exact .flat (by simpa [flatRVs] using h1) h2.2
    cases i with
    | zero =>
      simp [resTVs] at hx; subst hx
      obtain ⟨u, hu, hr⟩ := h 0 _ (by simp [resTVs]; rfl)
      refine ⟨u, hu, ?_⟩
      have hr' : ROs w (β m) size len u := hr
      show ROs w (β' m') size len u
      have := hb 0 (by simp [ownCount])
      simp only [Nat.add_zero] at this
      rw [this]; exact hr'
    | succ i =>
      simp only [resTVs, List.getElem?_cons_succ] at hx
      exact resTVs_ok (rs := l) (k := k) (m := m + 1) (m' := m' + 1) (vs := fun i => vs (i + 1)) hc' hz (fun i hi => by
        have := hb (i + 1) (by simp only [ownCount]; omega)
        rw [show m' + 1 + i = m' + (i + 1) by omega, show m + 1 + i = m + (i + 1) by omega]; exact this) (fun i x hx => h (i + 1) x (by simpa [resTVs] using hx)) i x hx

theorem resHp_get {base : Hp} : ∀ {rs : List RV} {m n : Nat}, (n < m ∨ m + ownCount rs ≤ n) → resHp base rs m n = base n
  | [], m, n, _ => rfl
  | .v _ :: l, m, n, h => resHp_get (rs := l) h
  | .own _ _ _ _ :: l, m, n, h => by
    simp only [resHp, ownCount] at *
    rw [upd_ne _ _ (by omega), resHp_get (rs := l) (by omega)]

theorem resHp_own {base : Hp} : ∀ {rs : List RV} {m i : Nat}, i < ownCount rs → ∃ e size len get, resHp base rs m (m + i) = some (.row e size len get) ∧ (∀ base' m', resHp base' rs m' (m' + i) = some (.row e size len get)) ∧ (∀ j, j < len → AllP (flatOwns rs) → flatGet (get j) size = true)
  | [], m, i, h => absurd h (Nat.not_lt_zero _)
  | .v _ :: l, m, i, h => by
    obtain ⟨e, size, len, get, h1, h2, h3⟩ := resHp_own (base := base) (rs := l) (m := m) (i := i) h
    exact ⟨e, size, len, get, h1, h2, h3⟩
  | .own e size len get :: l, m, i, h => by
    cases i with
    | zero => exact ⟨e, size, len, get, by simp [resHp, upd_same], fun b' m' => by simp [resHp, upd_same], fun j hj hf => chk_iff.1 (hf.1 j hj)⟩
    | succ i =>
      obtain ⟨e', size', len', get', h1, h2, h3⟩ := resHp_own (base := base) (rs := l) (m := m + 1) (i := i) (by simp only [ownCount] at h; omega)
      refine ⟨e', size', len', get', ?_, fun b' m' => ?_, fun j hj hf => h3 j hj hf.2⟩
      · simp only [resHp]; rw [upd_ne _ _ (by omega), show m + (i + 1) = m + 1 + i by omega]; exact h1
      · simp only [resHp]; rw [upd_ne _ _ (by omega), show m' + (i + 1) = m' + 1 + i by omega]; exact h2 b' (m' + 1)

theorem RA.of_list {l : List TV} {v : Value} (h : RA β Z w (resAV l) v) : ∃ vs : Nat → Option Value, (∀ (i : Nat) (x : TV), l[i]? = some x → ∃ u, vs i = some u ∧ RT β Z w x u) ∧
    ∀ (β' : Nat → Loc) (Z' : Nat → Prop) (w' : World) (l' : List TV), l'.length = l.length → (∀ (i : Nat) (x : TV), l'[i]? = some x → ∃ u, vs i = some u ∧ RT β' Z' w' x u) → RA β' Z' w' (resAV l') v := by
  match l, h with
  | [], h =>
    obtain ⟨vs, rfl, h1, h2⟩ := h
    refine ⟨fun i => vs[i]?, h2, fun β' Z' w' l' hl' hr => ?_⟩
    have : l' = [] := by simpa using hl'
    subst this
    exact ⟨vs, rfl, h1, hr⟩
  | [x], h =>
    refine ⟨fun i => match i with | 0 => some v | _ => none, fun i y hy => ?_, fun β' Z' w' l' hl' hr => ?_⟩
    · cases i with
      | zero => simp at hy; subst hy; exact ⟨v, rfl, h⟩
      | succ i => simp at hy
    · match l', hl' with
      | [y], _ =>
        obtain ⟨u, hu, hr⟩ := hr 0 y rfl
        simp at hu; subst hu
        exact hr
  | x :: y :: l, h =>
    obtain ⟨vs, rfl, h1, h2⟩ := h
    refine ⟨fun i => vs[i]?, h2, fun β' Z' w' l' hl' hr => ?_⟩
    match l', hl' with
    | a :: b :: l', hl' =>
      exact ⟨vs, rfl, by rw [h1]; exact hl'.symm, hr⟩

theorem resTVs_length : ∀ {rs : List RV} {m m' : Nat}, (resTVs rs m).length = (resTVs rs m').length
  | [], _, _ => rfl
  | .v _ :: l, m, m' => by simp [resTVs, resTVs_length (rs := l) (m := m) (m' := m')]
  | .own _ _ _ _ :: l, m, m' => by simp [resTVs, resTVs_length (rs := l) (m := m + 1) (m' := m' + 1)]

/-- A callee has come back: the caller's state goes on, with the results under names of their own. -/
theorem back_ok {nx : Nat} {Fr : Nat → Prop} (h : SatH E 0 Fr β Z hp w) (hFr : ∀ n, nx ≤ n → n < nx + 4 → Fr n) {rs : List RV} (hle : ownCount rs ≤ 4)
    {Z1 : Nat → Prop} (hz1 : ∀ b, Z b → Z1 b) (hz1lt : ∀ b, Z1 b → b < w.heap.size) (hz1o : ∀ b, Z1 b → Z b ∨ Own β hp b) {β1 : Nat → Loc} {Z1' : Nat → Prop} {val : Value}
    (c1 : SatH E 0 (fun n => ownCount rs ≤ n) β1 Z1' (resHp (fun _ => none) rs 0) w') (c2 : RA β1 Z1' w' (resAV (resTVs rs 0)) val) (c3 : Evo (fun _ => False) Z1 w Z1' w')
    (c4 : ∀ b, Own β1 (resHp (fun _ => none) rs 0) b → w.heap.size ≤ b) (c5 : ∀ b, Z1' b → Z1 b ∨ w.heap.size ≤ b)
    {base : Hp} (hbase : ∀ n blk, base n = some blk → hp n = some blk) {Z2 : Nat → Prop} (hz2 : ∀ b, Z b → Z2 b) (hz2o : ∀ b, Z2 b → Z b ∨ Z1' b) (hz2b : ∀ n blk b ln, base n = some blk → β n = .at b ln → ¬ Z2 b) (hc : Carry rs Z1' Z2) :
    ∃ β2, SatH E 0 (fun n => Fr n ∧ ¬ (nx ≤ n ∧ n < nx + 4)) β2 Z2 (resHp base rs nx) w' ∧ RA β2 Z2 w' (resAV (resTVs rs nx)) val ∧ Evo (Own β hp) Z w Z2 w' ∧ Ext β β2 ∧
      (∀ b, Own β2 (resHp base rs nx) b → Own β hp b ∨ w.heap.size ≤ b) ∧ (∀ b, Z2 b → Z b ∨ Own β hp b ∨ w.heap.size ≤ b) ∧ (∀ n, n < nx → resHp base rs nx n = base n) := by
  let β2 : Nat → Loc := fun n => if nx ≤ n ∧ n < nx + ownCount rs then β1 (n - nx) else β n
  have hβnew : ∀ i, i < ownCount rs → β2 (nx + i) = β1 i := fun i hi => by
    show (if nx ≤ nx + i ∧ nx + i < nx + ownCount rs then β1 (nx + i - nx) else β (nx + i)) = _
    rw [if_pos (by omega)]; congr 1; omega
  have hβold : ∀ n, ¬ (nx ≤ n ∧ n < nx + ownCount rs) → β2 n = β n := fun n hn => if_neg hn
  have ext : Ext β β2 := fun n hn => hβold n (fun hh => hn (h.fresh n (hFr n hh.1 (by omega))))
  have ev : Evo (Own β hp) Z w Z2 w' := ⟨c3.os, c3.tape, c3.output, c3.size, fun b hb _ => c3.same b hb (fun h => h), c3.rows, c3.loops, hz2⟩
  have hz1' : ∀ b, Z1' b → b < w'.heap.size := c1.zlt
  have hz2lt : ∀ b, Z2 b → b < w'.heap.size := fun b hb => (hz2o b hb).elim (fun h1 => Nat.lt_of_lt_of_le (h.zlt b h1) c3.size) (hz1' b)
  have newb : ∀ i, i < ownCount rs → ∀ b ln, β1 i = .at b ln → ∃ blk, resHp (fun _ => none) rs 0 i = some blk ∧ w.heap.size ≤ b ∧ b < w'.heap.size ∧ ¬ Z1' b := fun i hi b ln hb => by
    obtain ⟨e, size, len, get, q1, _, _⟩ := resHp_own (base := fun _ => none) (rs := rs) (m := 0) hi
    rw [Nat.zero_add] at q1
    obtain ⟨g1, g2, _⟩ := c1.own i _ b ln q1 hb
    exact ⟨_, q1, c4 b ⟨i, _, ln, q1, hb⟩, g1, g2⟩
  have cases_ : ∀ n blk, resHp base rs nx n = some blk → (base n = some blk ∧ ¬ (nx ≤ n ∧ n < nx + ownCount rs)) ∨ ∃ i, i < ownCount rs ∧ n = nx + i := fun n blk hn => by
    by_cases hh : nx ≤ n ∧ n < nx + ownCount rs
    · exact .inr ⟨n - nx, by omega, by omega⟩
    · rw [resHp_get (by omega)] at hn; exact .inl ⟨hn, hh⟩
  refine ⟨β2, ?_, ?_, ev, ext, fun b hb => ?_, fun b hb => ?_, fun n hn => resHp_get (.inl hn)⟩
  · refine h.step ev ext (fun n blk hn => ?_) (fun n m x y b l1 l2 hn hm hb1 hb2 => ?_) hz2lt (fun n hn => ?_)
    · rcases cases_ n blk hn with ⟨h1, h2⟩ | ⟨i, hi, rfl⟩
      · refine .inl ⟨hbase n blk h1, fun b ln hb => ⟨?_, hz2b n blk b ln h1 hb⟩⟩
        exact c3.same b (h.own n blk b ln (hbase n blk h1) hb).1 (fun h => h)
      · refine .inr ?_
        obtain ⟨e, size, len, get, q1, q2, q3⟩ := resHp_own (base := base) (rs := rs) (m := nx) hi
        rw [q1] at hn; injection hn with hn; subst hn
        have q2' := q2 (fun _ => none) 0
        rw [Nat.zero_add] at q2'
        have hrb := c1.rb i _ q2'
        rw [hβnew i hi]
        refine ⟨?_, fun b ln hb => ?_⟩
        · cases hl : β1 i with
          | no => rw [hl] at hrb; exact hrb.elim
          | virt => rw [hl] at hrb; exact hrb
          | «at» b ln =>
            rw [hl] at hrb
            obtain ⟨a0, cs, a1, a2, a3⟩ := hrb
            refine ⟨a0, cs, a1, a2, fun i' hi' j hj => ?_⟩
            obtain ⟨u, hu, hr⟩ := a3 i' hi' j hj
            refine ⟨u, hu, ?_⟩
            cases hc with
            | pure p1 p2 => exact RP.zup hz1' p1 hr
            | flat p1 p2 => exact (flat_any (β' := β2) (flatGet_get (q3 i' hi' p2) j hj) (RC.of_RP (β := β2) hr)).2
        · obtain ⟨blk, r1, r2, r3, r4⟩ := newb i hi b ln hb
          exact ⟨r3, fun hz => (hz2o b hz).elim (fun hz => absurd (h.zlt b hz) (by omega)) r4, Nat.zero_le _⟩
    · rcases cases_ n x hn with ⟨h1, h2⟩ | ⟨i, hi, rfl⟩
      · rcases cases_ m y hm with ⟨h3, h4⟩ | ⟨j, hj, rfl⟩
        · rw [hβold n h2] at hb1
          rw [hβold m h4] at hb2
          exact h.inj n m x y b l1 l2 (hbase n x h1) (hbase m y h3) hb1 hb2
        · rw [hβold n h2] at hb1
          rw [hβnew j hj] at hb2
          obtain ⟨_, _, r2, _⟩ := newb j hj b l2 hb2
          exact absurd (h.own n x b l1 (hbase n x h1) hb1).1 (by omega)
      · rcases cases_ m y hm with ⟨h3, h4⟩ | ⟨j, hj, rfl⟩
        · rw [hβnew i hi] at hb1
          rw [hβold m h4] at hb2
          obtain ⟨_, _, r2, _⟩ := newb i hi b l1 hb1
          exact absurd (h.own m y b l2 (hbase m y h3) hb2).1 (by omega)
        · rw [hβnew i hi] at hb1
          rw [hβnew j hj] at hb2
          obtain ⟨x', r1, _⟩ := newb i hi b l1 hb1
          obtain ⟨y', r2, _⟩ := newb j hj b l2 hb2
          have := c1.inj i j x' y' b l1 l2 r1 r2 hb1 hb2
          omega
    · rw [hβold n (fun hh => hn.2 ⟨hh.1, by omega⟩)]; exact h.fresh n hn.1
  · obtain ⟨vs, v1, v2⟩ := RA.of_list c2
    exact v2 β2 Z2 w' _ resTVs_length (resTVs_ok (k := 0) (m := 0) (m' := nx) hc hz1' (fun i hi => by rw [Nat.zero_add]; exact hβnew i hi) v1)
  · obtain ⟨n, blk, ln, hn, hb⟩ := hb
    rcases cases_ n blk hn with ⟨h1, h2⟩ | ⟨i, hi, rfl⟩
    · rw [hβold n h2] at hb; exact .inl ⟨n, blk, ln, hbase n blk h1, hb⟩
    · rw [hβnew i hi] at hb
      obtain ⟨_, _, r2, _⟩ := newb i hi b ln hb
      exact .inr r2
  · rcases hz2o b hb with h1 | h1
    · exact .inl h1
    · rcases c5 b h1 with h2 | h2
      · rcases hz1o b h2 with h3 | h3
        · exact .inl h3
        · exact .inr (.inl h3)
      · exact .inr (.inr h2)
end
end Go.Sx
