/- Texts for the law of the last part, part 5. -/
import Derived.Test.YtcfmdhlohahhcaaDoorMendsUptoP04
import Derived.TacticsIn
set_option linter.unusedSimpArgs false
set_option linter.unusedVariables false
namespace Go.Sx
structure HS where
 β : Nat → Loc
 Z : Nat → Prop
 hp : Hp
 nx : Nat
 wl : List Nat
 w : World
def HS.ok (E : Env) (x : HS) : Prop := SatH E 0 (fun n => x.nx ≤ n) x.β x.Z x.hp x.w
structure Turn (x y : HS) : Prop where
 ev : Evo (Own x.β x.hp) x.Z x.w y.Z y.w
 ext : Ext x.β y.β
 own : ∀ b, Own y.β y.hp b → Own x.β x.hp b ∨ x.w.heap.size ≤ b
 zown : ∀ b, y.Z b → x.Z b ∨ Own x.β x.hp b ∨ x.w.heap.size ≤ b
 nx : x.nx ≤ y.nx
 wl : ∀ n, n ∈ x.wl → n ∈ y.wl
 frame : ∀ n, n < x.nx → n ∉ y.wl → y.hp n = x.hp n
theorem Turn.refl (x : HS) : Turn x x := ⟨Evo.refl _ _ _, Ext.refl _, fun _ h => .inl h, fun _ h => .inl h, Nat.le_refl _, fun _ h => h, fun _ _ _ => rfl⟩
theorem Turn.trans {x y z : HS} (h : Turn x y) (h' : Turn y z) : Turn x z := by
 refine ⟨h.ev.trans h'.ev h.own, h.ext.trans h'.ext, fun b hb => ?_, fun b hb => ?_, Nat.le_trans h.nx h'.nx, fun n hn => h'.wl n (h.wl n hn), fun n hn hw => ?_⟩
 · rcases h'.own b hb with h1 | h1
   · exact h.own b h1
   · exact .inr (Nat.le_trans h.ev.size h1)
 · rcases h'.zown b hb with h1 | h1 | h1
   · exact h.zown b h1
   · exact .inr (h.own b h1)
   · exact .inr (.inr (Nat.le_trans h.ev.size h1))
 · rw [h'.frame n (Nat.lt_of_lt_of_le hn h.nx) hw, h.frame n hn (fun hw' => hw (h'.wl n hw'))]
section
variable {P : Program} {E : Env} {β β' : Nat → Loc} {Z Z' : Nat → Prop} {hp : Hp} {w w' : World}
theorem Evo.zup {own : Nat → Prop} (h : ∀ b, Z b → Z' b) : Evo own Z w Z' w :=
 ⟨rfl, rfl, rfl, Nat.le_refl _, fun _ _ _ => rfl, fun _ cs _ h => ⟨cs, h, rfl⟩, fun _ r h => ⟨r, h, rfl, rfl, rfl, rfl, rfl, rfl⟩, h⟩
theorem RP.zup {x : CV} {v : Value} (hz : ∀ b, Z b → b < w.heap.size) (h : ∀ b, Z b → Z' b) (hv : RP Z w x v) : RP Z' w x v :=
 RP.mono (own := fun _ => False) (Evo.zup h) (fun b hb => ⟨hz b hb, fun h => h⟩) hv
def Zargs (β : Nat → Loc) (Z : Nat → Prop) (hp : Hp) (l : List Nat) : Nat → Prop := fun b => Z b ∨ ∃ n blk ln, n ∈ l ∧ hp n = some blk ∧ β n = .at b ln
theorem Zargs.mono {l l' : List Nat} (h : ∀ n, n ∈ l → n ∈ l') (b : Nat) (hb : Zargs β Z hp l b) : Zargs β Z hp l' b :=
 hb.elim .inl (fun ⟨n, blk, ln, h1, h2⟩ => .inr ⟨n, blk, ln, h n h1, h2⟩)
theorem Zargs.lt {Fr : Nat → Prop} {B : Nat} (h : SatH E B Fr β Z hp w) {l : List Nat} (b : Nat) (hb : Zargs β Z hp l b) : b < w.heap.size :=
 hb.elim (h.zlt b) (fun ⟨n, blk, ln, _, h2, h3⟩ => (h.own n blk b ln h2 h3).1)
theorem pureCV_ok {Fr : Nat → Prop} {B : Nat} (h : SatH E B Fr β Z hp w) {hpS : Hp} (hsub : ∀ n blk, hpS n = some blk → hp n = some blk) {l : List Nat} {x y : CV} {v : Value} (hx : RC β Z w x v) (hl : ∀ n, n ∈ ownCV x → n ∈ l) (hy : pureCV hpS x = some y) :
   RC β' (Zargs β Z hp l) w y v := by
 have hzl : ∀ b, Z b → Zargs β Z hp l b := fun b hb => .inl hb
 have pure_ : ∀ {x : CV}, isPure x = true → RC β Z w x v → RC β' (Zargs β Z hp l) w x v := fun hp1 h1 => RC.of_RP (RP.zup h.zlt hzl (RP.of_RC hp1 h1))
 unfold pureCV at hy
 split at hy
 · rename_i n sz ln0
   have hx' : ROs w (β n) sz ln0 v := hx
   split at hy
   · rename_i e size len get hn
     split at hy
     · rename_i hbeq
       obtain rfl := Nat.eq_of_beq_eq_true hbeq
       injection hy with hy; subst hy
       have hnp := hsub n _ hn
       have hrb := h.rb n _ hnp
       cases hβ : β n with
       | no => rw [hβ] at hx'; exact hx'.elim
       | virt =>
         rw [hβ] at hx' hrb
         obtain ⟨rfl, _⟩ := hx'
         have h0 : len = 0 := hrb
         subst h0
         exact ⟨none, 0, rfl, Nat.le_refl _, fun h => absurd h (Nat.lt_irrefl 0)⟩
       | «at» b ln =>
         rw [hβ] at hx' hrb
         obtain ⟨rfl, cap, rfl, q1, _⟩ := hx'
         obtain ⟨rfl, cs, g1, g2, g3⟩ := hrb
         refine ⟨some ⟨b, 0, none⟩, cap, rfl, q1, fun _ => ⟨b, 0, rfl, .inr ⟨n, _, _, hl n (by simp [ownCV]), hnp, hβ⟩, fun i hi j hj => ?_⟩⟩
         obtain ⟨u, hu, hr⟩ := g3 i hi j hj
         exact ⟨u, by rw [cell_of_heap g1, Nat.zero_add]; exact hu, RP.zup h.zlt hzl hr⟩
     · simp at hy
   · simp at hy
 · split at hy
   · rename_i hpu
     injection hy with hy; subst hy
     exact pure_ hpu hx
   · simp at hy
theorem pureGet_ok {Fr : Nat → Prop} {B : Nat} (h : SatH E B Fr β Z hp w) {hpS : Hp} (hsub : ∀ n blk, hpS n = some blk → hp n = some blk) {l : List Nat} {get : Nat → CV} : ∀ {n : Nat} {g : Nat → CV} {vs : Nat → Option Value},
   (∀ j, j < n → ∃ u, vs j = some u ∧ RC β Z w (get j) u) → (∀ m, m ∈ ownGet get n → m ∈ l) → pureGet hpS get n = some g → (∀ j, j < n → ∃ u, vs j = some u ∧ RC β' (Zargs β Z hp l) w (g j) u) ∧ ∀ j, n ≤ j → g j = get j
 | 0, g, vs, _, _, hg => by
   simp [pureGet] at hg; subst hg
   exact ⟨fun j hj => absurd hj (Nat.not_lt_zero _), fun _ _ => rfl⟩
 | n + 1, g, vs, hv, hl, hg => by
   have ih := fun {g} => pureGet_ok h hsub (get := get) (n := n) (g := g) (vs := vs) (fun j hj => hv j (by omega)) (fun m hm => hl m (by simp [ownGet, hm]))
   obtain ⟨u, hu, hr⟩ := hv n (by omega)
   unfold pureGet at hg
   split at hg
   · rename_i g0 e1 e2
     injection hg with hg; subst hg
     obtain ⟨i1, i2⟩ := ih e1
     refine ⟨fun j hj => ?_, fun j hj => i2 j (by omega)⟩
     by_cases hjn : j = n
     · subst hjn
       rw [i2 j (Nat.le_refl _)]
       exact ⟨u, hu, RC.of_RP (RP.zup h.zlt (fun b hb => .inl hb) (RP.of_RC e2 hr))⟩
     · exact i1 j (by omega)
   · rename_i g0 e1 e2
     split at hg
     · rename_i y hy
       injection hg with hg; subst hg
       obtain ⟨i1, i2⟩ := ih e1
       refine ⟨fun j hj => ?_, fun j hj => (if_neg (by omega : ¬ j = n)).trans (i2 j (by omega))⟩
       by_cases hjn : j = n
       · subst hjn
         simp only [if_true]
         exact ⟨u, hu, pureCV_ok h hsub hr (fun m hm => hl m (by simp [ownGet, hm])) hy⟩
       · simp only [hjn, if_false]
         exact i1 j (by omega)
     · simp at hg
   · simp at hg
theorem pureTV_ok {Fr : Nat → Prop} {B : Nat} (h : SatH E B Fr β Z hp w) {hpS : Hp} (hsub : ∀ n blk, hpS n = some blk → hp n = some blk) {l : List Nat} {x y : TV} {v : Value} (hx : RT β Z w x v) (hl : ∀ n, n ∈ ownTV x → n ∈ l) (hy : pureTV hpS x = some y) :
   RT β' (Zargs β Z hp l) w y v := by
 cases x with
 | c x =>
   simp only [pureTV] at hy
   split at hy
   · rename_i z hz
     injection hy with hy; subst hy
     exact pureCV_ok h hsub hx hl hz
   · simp at hy
 | a n get =>
   simp only [pureTV] at hy
   split at hy
   · rename_i g hg
     injection hy with hy; subst hy
     obtain ⟨cs, rfl, h1, h2⟩ := hx
     exact ⟨cs, rfl, h1, (pureGet_ok h hsub (vs := fun j => cs[j]?) h2 hl hg).1⟩
   · simp at hy
theorem pureTVs_ok {Fr : Nat → Prop} {B : Nat} (h : SatH E B Fr β Z hp w) {hpS : Hp} (hsub : ∀ n blk, hpS n = some blk → hp n = some blk) {l : List Nat} : ∀ {xs ys : List TV} {vs : List Value}, RL β Z w xs vs → (∀ n, n ∈ ownTVs xs → n ∈ l) → pureTVs hpS xs = some ys → RL β' (Zargs β Z hp l) w ys vs
 | [], ys, vs, hx, _, hy => by
   simp [pureTVs] at hy; subst hy
   cases vs with
   | nil => trivial
   | cons => exact hx.elim
 | x :: xs, ys, vs, hx, hl, hy => by
   cases vs with
   | nil => cases x <;> exact hx.elim
   | cons v vs =>
     simp only [pureTVs] at hy
     split at hy
     · rename_i y r h1 h2
       injection hy with hy; subst hy
       exact ⟨pureTV_ok h hsub hx.1 (fun n hn => hl n (by simp [ownTVs, hn])) h1, pureTVs_ok h hsub hx.2 (fun n hn => hl n (by simp [ownTVs, hn])) h2⟩
     · simp at hy
def CallQ (P : Program) (E : Env) (f : FuncId) (args : List TV) (rs : List RV) : Prop :=
 ∀ (Z : Nat → Prop) (w : World) (vs : List Value), SatH E 0 (fun _ => True) (fun _ => .no) Z (fun _ => none) w → RL (fun _ => .no) Z w args vs →
   CallsIn Fence.wide 0 P f vs.toArray w fun e w' => ∃ val β' Z', e = .returned val ∧ SatH E 0 (fun n => ownCount rs ≤ n) β' Z' (resHp (fun _ => none) rs 0) w' ∧ RA β' Z' w' (resAV (resTVs rs 0)) val ∧
     Evo (fun _ => False) Z w Z' w' ∧ (∀ b, Own β' (resHp (fun _ => none) rs 0) b → w.heap.size ≤ b) ∧ (∀ b, Z' b → Z b ∨ w.heap.size ≤ b)
def SemRec (P : Program) (E : Env) (f : FuncId) (R : RSpec) (g : R.γ) : Prop :=
 ∀ (Z : Nat → Prop) (β : Nat → Loc) (w : World) (vs : List Value), SatH E 0 (fun m => lenR (R.hp g) ≤ m) β Z (canonHp (R.hp g)) w → RL β Z w (R.arg g) vs →
   CallsIn Fence.wide 0 P f vs.toArray w fun e w' => ∃ val l Z', e = .returned val ∧ RB (fun _ => .no) Z' w' l (.row R.e R.size (R.len g) (R.get g)) ∧ (∀ b ln, l = .at b ln → b < w'.heap.size ∧ ¬ Z' b ∧ (Own β (canonHp (R.hp g)) b ∨ w.heap.size ≤ b)) ∧
     ROs w' l R.size (R.len g) val ∧ Evo (Own β (canonHp (R.hp g))) Z w Z' w' ∧ (∀ b, Z' b → Z b ∨ Own β (canonHp (R.hp g)) b ∨ w.heap.size ≤ b) ∧ (∀ b, Z' b → b < w'.heap.size) ∧ GlOk E Z' w'
def SemK (P : Program) (E : Env) (f : FuncId) (R : KSpec) (g : R.γ) : Prop :=
 ∀ (Z : Nat → Prop) (β : Nat → Loc) (w : World) (vs : List Value), SatH E 0 (fun m => lenR (R.hp g) ≤ m) β Z (canonHp (R.hp g)) w → RL β Z w (R.arg g) vs →
   CallsIn Fence.wide 0 P f vs.toArray w fun e w' => ∃ val d Z' βf, e = .returned val ∧ R.post g d ∧ lenB (R.fin g d) = lenR (R.hp g) ∧ (∀ m, R.mv ≠ some m → βf m = β m) ∧
     SatH E 0 (fun m => lenR (R.hp g) ≤ m) βf Z' (canonB (R.fin g d)) w' ∧ (∀ b, Own βf (canonB (R.fin g d)) b → Own β (canonHp (R.hp g)) b ∨ w.heap.size ≤ b) ∧
     RA (fun _ => .no) Z' w' (resAV (R.res g d)) val ∧ Evo (Own β (canonHp (R.hp g))) Z w Z' w' ∧ (∀ b, Z' b → Z b ∨ Own β (canonHp (R.hp g)) b ∨ w.heap.size ≤ b)
def ESpec.toK (R : ESpec) : KSpec := { γ := R.γ, δ := Unit, ok := R.ok, arg := R.arg, hp := R.hp, post := fun _ _ => True, fin := fun g _ => (R.hp g).map Prod.snd, res := fun g _ => R.res g }
theorem flat_any {x : CV} (hx : isFlat x = true) {v : Value} (h : RC β Z w x v) : RC β' Z' w' x v ∧ RP Z' w' x v := by
 cases x <;> simp [isFlat] at hx <;> exact ⟨h, h⟩
theorem flatGet_get : ∀ {get : Nat → CV} {n : Nat}, flatGet get n = true → ∀ j, j < n → isFlat (get j) = true
 | get, 0, _, j, hj => absurd hj (Nat.not_lt_zero j)
 | get, n + 1, h, j, hj => by
   simp only [flatGet, Bool.and_eq_true] at h
   by_cases hjn : j = n
   · subst hjn; exact h.2
   · exact flatGet_get h.1 j (by omega)
theorem chk_iff {b : Bool} : chk b ↔ b = true := by cases b <;> simp [chk]
inductive Carry (rs : List RV) (Z Z' : Nat → Prop) : Prop
 | pure (h : ∀ b, Z b → Z' b) (hp : pureRVs rs = true)
 | flat (h : flatRVs rs = true) (ho : AllP (flatOwns rs))
theorem resTVs_ok {m m' : Nat} : ∀ {rs : List RV} {k : Nat} {vs : Nat → Option Value}, Carry rs Z Z' → (∀ b, Z b → b < w.heap.size) → (∀ i, i < ownCount rs → β' (m' + i) = β (m + i)) →
   (∀ (i : Nat) (x : TV), (resTVs rs m)[i]? = some x → ∃ u, vs i = some u ∧ RT β Z w x u) → ∀ (i : Nat) (x : TV), (resTVs rs m')[i]? = some x → ∃ u, vs i = some u ∧ RT β' Z' w x u
 | [], k, vs, _, _, _, _, i, x, hx => by simp [resTVs] at hx
 | .v y :: l, k, vs, hc, hz, hb, h, i, x, hx => by
   have hc' : Carry l Z Z' := by
     cases hc with
     | pure h1 h2 => exact .pure h1 (by cases y <;> simp [pureRVs] at h2 <;> exact h2.2)
     | flat h1 h2 => exact .flat (by cases y <;> simp [flatRVs] at h1 <;> exact h1.2) h2
   cases i with
   | zero =>
     simp [resTVs] at hx; subst hx
     obtain ⟨u, hu, hr⟩ := h 0 y (by simp [resTVs])
     refine ⟨u, hu, ?_⟩
     cases hc with
     | pure h1 h2 =>
       cases y with
       | c q => simp [pureRVs] at h2; exact RC.of_RP (RP.zup hz h1 (RP.of_RC h2.1 hr))
       | a n g =>
         simp [pureRVs] at h2
         obtain ⟨cs, rfl, a1, a2⟩ := hr
         exact ⟨cs, rfl, a1, fun j hj => let ⟨u, hu, hr⟩ := a2 j hj; ⟨u, hu, RC.of_RP (RP.zup hz h1 (RP.of_RC (allPure_get h2.1 j hj) hr))⟩⟩
     | flat h1 h2 =>
       cases y with
       | c q => simp [flatRVs] at h1; exact (flat_any h1.1 hr).1
       | a n g =>
         simp [flatRVs] at h1
         obtain ⟨cs, rfl, a1, a2⟩ := hr
         exact ⟨cs, rfl, a1, fun j hj => let ⟨u, hu, hr⟩ := a2 j hj; ⟨u, hu, (flat_any (flatGet_get h1.1 j hj) hr).1⟩⟩
   | succ i =>
     simp only [resTVs, List.getElem?_cons_succ] at hx
     exact resTVs_ok (rs := l) (k := k) (vs := fun i => vs (i + 1)) hc' hz hb (fun i x hx => h (i + 1) x (by simpa [resTVs] using hx)) i x hx
 | .own e size len get :: l, k, vs, hc, hz, hb, h, i, x, hx => by
   have hc' : Carry l Z Z' := by
     cases hc with
     | pure h1 h2 => exact .pure h1 (by simpa [pureRVs] using h2)
     | flat h1 h2 => exact .flat (by simpa [flatRVs] using h1) h2.2
   cases i with
   | zero =>
     simp [resTVs] at hx; subst hx
     obtain ⟨u, hu, hr⟩ := h 0 _ (by simp [resTVs]; rfl)
     refine ⟨u, hu, ?_⟩
     have hr' : ROs w (β m) size len u := hr
     show ROs w (β' m') size len u
     have := hb 0 (by simp [ownCount])
     simp only [Nat.add_zero] at this
     rw [this]; exact hr'
   | succ i =>
     simp only [resTVs, List.getElem?_cons_succ] at hx
     exact resTVs_ok (rs := l) (k := k) (m := m + 1) (m' := m' + 1) (vs := fun i => vs (i + 1)) hc' hz (fun i hi => by
       have := hb (i + 1) (by simp only [ownCount]; omega)
       rw [show m' + 1 + i = m' + (i + 1) by omega, show m + 1 + i = m + (i + 1) by omega]; exact this) (fun i x hx => h (i + 1) x (by simpa [resTVs] using hx)) i x hx
theorem resHp_get {base : Hp} : ∀ {rs : List RV} {m n : Nat}, (n < m ∨ m + ownCount rs ≤ n) → resHp base rs m n = base n
 | [], m, n, _ => rfl
 | .v _ :: l, m, n, h => resHp_get (rs := l) h
 | .own _ _ _ _ :: l, m, n, h => by
   simp only [resHp, ownCount] at *
   rw [upd_ne _ _ (by omega), resHp_get (rs := l) (by omega)]
theorem resHp_own {base : Hp} : ∀ {rs : List RV} {m i : Nat}, i < ownCount rs → ∃ e size len get, resHp base rs m (m + i) = some (.row e size len get) ∧ (∀ base' m', resHp base' rs m' (m' + i) = some (.row e size len get)) ∧ (∀ j, j < len → AllP (flatOwns rs) → flatGet (get j) size = true)
 | [], m, i, h => absurd h (Nat.not_lt_zero _)
 | .v _ :: l, m, i, h => by
   obtain ⟨e, size, len, get, h1, h2, h3⟩ := resHp_own (base := base) (rs := l) (m := m) (i := i) h
   exact ⟨e, size, len, get, h1, h2, h3⟩
 | .own e size len get :: l, m, i, h => by
   cases i with
   | zero => exact ⟨e, size, len, get, by simp [resHp, upd_same], fun b' m' => by simp [resHp, upd_same], fun j hj hf => chk_iff.1 (hf.1 j hj)⟩
   | succ i =>
     obtain ⟨e', size', len', get', h1, h2, h3⟩ := resHp_own (base := base) (rs := l) (m := m + 1) (i := i) (by simp only [ownCount] at h; omega)
     refine ⟨e', size', len', get', ?_, fun b' m' => ?_, fun j hj hf => h3 j hj hf.2⟩
     · simp only [resHp]; rw [upd_ne _ _ (by omega), show m + (i + 1) = m + 1 + i by omega]; exact h1
     · simp only [resHp]; rw [upd_ne _ _ (by omega), show m' + (i + 1) = m' + 1 + i by omega]; exact h2 b' (m' + 1)
theorem RA.of_list {l : List TV} {v : Value} (h : RA β Z w (resAV l) v) : ∃ vs : Nat → Option Value, (∀ (i : Nat) (x : TV), l[i]? = some x → ∃ u, vs i = some u ∧ RT β Z w x u) ∧
   ∀ (β' : Nat → Loc) (Z' : Nat → Prop) (w' : World) (l' : List TV), l'.length = l.length → (∀ (i : Nat) (x : TV), l'[i]? = some x → ∃ u, vs i = some u ∧ RT β' Z' w' x u) → RA β' Z' w' (resAV l') v := by
 match l, h with
 | [], h =>
   obtain ⟨vs, rfl, h1, h2⟩ := h
   refine ⟨fun i => vs[i]?, h2, fun β' Z' w' l' hl' hr => ?_⟩
   have : l' = [] := by simpa using hl'
   subst this
   exact ⟨vs, rfl, h1, hr⟩
 | [x], h =>
   refine ⟨fun i => match i with | 0 => some v | _ => none, fun i y hy => ?_, fun β' Z' w' l' hl' hr => ?_⟩
   · cases i with
     | zero => simp at hy; subst hy; exact ⟨v, rfl, h⟩
     | succ i => simp at hy
   · match l', hl' with
     | [y], _ =>
       obtain ⟨u, hu, hr⟩ := hr 0 y rfl
       simp at hu; subst hu
       exact hr
 | x :: y :: l, h =>
   obtain ⟨vs, rfl, h1, h2⟩ := h
   refine ⟨fun i => vs[i]?, h2, fun β' Z' w' l' hl' hr => ?_⟩
   match l', hl' with
   | a :: b :: l', hl' =>
     exact ⟨vs, rfl, by rw [h1]; exact hl'.symm, hr⟩
theorem resTVs_length : ∀ {rs : List RV} {m m' : Nat}, (resTVs rs m).length = (resTVs rs m').length
 | [], _, _ => rfl
 | .v _ :: l, m, m' => by simp [resTVs, resTVs_length (rs := l) (m := m) (m' := m')]
 | .own _ _ _ _ :: l, m, m' => by simp [resTVs, resTVs_length (rs := l) (m := m + 1) (m' := m' + 1)]
theorem back_ok {nx : Nat} {Fr : Nat → Prop} (h : SatH E 0 Fr β Z hp w) (hFr : ∀ n, nx ≤ n → n < nx + 4 → Fr n) {rs : List RV} (hle : ownCount rs ≤ 4)
   {Z1 : Nat → Prop} (hz1 : ∀ b, Z b → Z1 b) (hz1lt : ∀ b, Z1 b → b < w.heap.size) (hz1o : ∀ b, Z1 b → Z b ∨ Own β hp b) {β1 : Nat → Loc} {Z1' : Nat → Prop} {val : Value}
   (c1 : SatH E 0 (fun n => ownCount rs ≤ n) β1 Z1' (resHp (fun _ => none) rs 0) w') (c2 : RA β1 Z1' w' (resAV (resTVs rs 0)) val) (c3 : Evo (fun _ => False) Z1 w Z1' w')
   (c4 : ∀ b, Own β1 (resHp (fun _ => none) rs 0) b → w.heap.size ≤ b) (c5 : ∀ b, Z1' b → Z1 b ∨ w.heap.size ≤ b)
   {base : Hp} (hbase : ∀ n blk, base n = some blk → hp n = some blk) {Z2 : Nat → Prop} (hz2 : ∀ b, Z b → Z2 b) (hz2o : ∀ b, Z2 b → Z b ∨ Z1' b) (hz2b : ∀ n blk b ln, base n = some blk → β n = .at b ln → ¬ Z2 b) (hc : Carry rs Z1' Z2) :
   ∃ β2, SatH E 0 (fun n => Fr n ∧ ¬ (nx ≤ n ∧ n < nx + 4)) β2 Z2 (resHp base rs nx) w' ∧ RA β2 Z2 w' (resAV (resTVs rs nx)) val ∧ Evo (Own β hp) Z w Z2 w' ∧ Ext β β2 ∧
     (∀ b, Own β2 (resHp base rs nx) b → Own β hp b ∨ w.heap.size ≤ b) ∧ (∀ b, Z2 b → Z b ∨ Own β hp b ∨ w.heap.size ≤ b) ∧ (∀ n, n < nx → resHp base rs nx n = base n) := by
 let β2 : Nat → Loc := fun n => if nx ≤ n ∧ n < nx + ownCount rs then β1 (n - nx) else β n
 have hβnew : ∀ i, i < ownCount rs → β2 (nx + i) = β1 i := fun i hi => by
   show (if nx ≤ nx + i ∧ nx + i < nx + ownCount rs then β1 (nx + i - nx) else β (nx + i)) = _
   rw [if_pos (by omega)]; congr 1; omega
 have hβold : ∀ n, ¬ (nx ≤ n ∧ n < nx + ownCount rs) → β2 n = β n := fun n hn => if_neg hn
 have ext : Ext β β2 := fun n hn => hβold n (fun hh => hn (h.fresh n (hFr n hh.1 (by omega))))
 have ev : Evo (Own β hp) Z w Z2 w' := ⟨c3.os, c3.tape, c3.output, c3.size, fun b hb _ => c3.same b hb (fun h => h), c3.rows, c3.loops, hz2⟩
 have hz1' : ∀ b, Z1' b → b < w'.heap.size := c1.zlt
 have hz2lt : ∀ b, Z2 b → b < w'.heap.size := fun b hb => (hz2o b hb).elim (fun h1 => Nat.lt_of_lt_of_le (h.zlt b h1) c3.size) (hz1' b)
 have newb : ∀ i, i < ownCount rs → ∀ b ln, β1 i = .at b ln → ∃ blk, resHp (fun _ => none) rs 0 i = some blk ∧ w.heap.size ≤ b ∧ b < w'.heap.size ∧ ¬ Z1' b := fun i hi b ln hb => by
   obtain ⟨e, size, len, get, q1, _, _⟩ := resHp_own (base := fun _ => none) (rs := rs) (m := 0) hi
   rw [Nat.zero_add] at q1
   obtain ⟨g1, g2, _⟩ := c1.own i _ b ln q1 hb
   exact ⟨_, q1, c4 b ⟨i, _, ln, q1, hb⟩, g1, g2⟩
 have cases_ : ∀ n blk, resHp base rs nx n = some blk → (base n = some blk ∧ ¬ (nx ≤ n ∧ n < nx + ownCount rs)) ∨ ∃ i, i < ownCount rs ∧ n = nx + i := fun n blk hn => by
   by_cases hh : nx ≤ n ∧ n < nx + ownCount rs
   · exact .inr ⟨n - nx, by omega, by omega⟩
   · rw [resHp_get (by omega)] at hn; exact .inl ⟨hn, hh⟩
 refine ⟨β2, ?_, ?_, ev, ext, fun b hb => ?_, fun b hb => ?_, fun n hn => resHp_get (.inl hn)⟩
 · refine h.step ev ext (fun n blk hn => ?_) (fun n m x y b l1 l2 hn hm hb1 hb2 => ?_) hz2lt (fun n hn => ?_)
   · rcases cases_ n blk hn with ⟨h1, h2⟩ | ⟨i, hi, rfl⟩
     · refine .inl ⟨hbase n blk h1, fun b ln hb => ⟨?_, hz2b n blk b ln h1 hb⟩⟩
       exact c3.same b (h.own n blk b ln (hbase n blk h1) hb).1 (fun h => h)
     · refine .inr ?_
       obtain ⟨e, size, len, get, q1, q2, q3⟩ := resHp_own (base := base) (rs := rs) (m := nx) hi
       rw [q1] at hn; injection hn with hn; subst hn
       have q2' := q2 (fun _ => none) 0
       rw [Nat.zero_add] at q2'
       have hrb := c1.rb i _ q2'
       rw [hβnew i hi]
       refine ⟨?_, fun b ln hb => ?_⟩
       · cases hl : β1 i with
         | no => rw [hl] at hrb; exact hrb.elim
         | virt => rw [hl] at hrb; exact hrb
         | «at» b ln =>
           rw [hl] at hrb
           obtain ⟨a0, cs, a1, a2, a3⟩ := hrb
           refine ⟨a0, cs, a1, a2, fun i' hi' j hj => ?_⟩
           obtain ⟨u, hu, hr⟩ := a3 i' hi' j hj
           refine ⟨u, hu, ?_⟩
           cases hc with
           | pure p1 p2 => exact RP.zup hz1' p1 hr
           | flat p1 p2 => exact (flat_any (β' := β2) (flatGet_get (q3 i' hi' p2) j hj) (RC.of_RP (β := β2) hr)).2
       · obtain ⟨blk, r1, r2, r3, r4⟩ := newb i hi b ln hb
         exact ⟨r3, fun hz => (hz2o b hz).elim (fun hz => absurd (h.zlt b hz) (by omega)) r4, Nat.zero_le _⟩
   · rcases cases_ n x hn with ⟨h1, h2⟩ | ⟨i, hi, rfl⟩
     · rcases cases_ m y hm with ⟨h3, h4⟩ | ⟨j, hj, rfl⟩
       · rw [hβold n h2] at hb1
         rw [hβold m h4] at hb2
         exact h.inj n m x y b l1 l2 (hbase n x h1) (hbase m y h3) hb1 hb2
       · rw [hβold n h2] at hb1
         rw [hβnew j hj] at hb2
         obtain ⟨_, _, r2, _⟩ := newb j hj b l2 hb2
         exact absurd (h.own n x b l1 (hbase n x h1) hb1).1 (by omega)
     · rcases cases_ m y hm with ⟨h3, h4⟩ | ⟨j, hj, rfl⟩
       · rw [hβnew i hi] at hb1
         rw [hβold m h4] at hb2
         obtain ⟨_, _, r2, _⟩ := newb i hi b l1 hb1
         exact absurd (h.own m y b l2 (hbase m y h3) hb2).1 (by omega)
       · rw [hβnew i hi] at hb1
         rw [hβnew j hj] at hb2
         obtain ⟨x', r1, _⟩ := newb i hi b l1 hb1
         obtain ⟨y', r2, _⟩ := newb j hj b l2 hb2
         have := c1.inj i j x' y' b l1 l2 r1 r2 hb1 hb2
         omega
   · rw [hβold n (fun hh => hn.2 ⟨hh.1, by omega⟩)]; exact h.fresh n hn.1
 · obtain ⟨vs, v1, v2⟩ := RA.of_list c2
   exact v2 β2 Z2 w' _ resTVs_length (resTVs_ok (k := 0) (m := 0) (m' := nx) hc hz1' (fun i hi => by rw [Nat.zero_add]; exact hβnew i hi) v1)
 · obtain ⟨n, blk, ln, hn, hb⟩ := hb
   rcases cases_ n blk hn with ⟨h1, h2⟩ | ⟨i, hi, rfl⟩
   · rw [hβold n h2] at hb; exact .inl ⟨n, blk, ln, hbase n blk h1, hb⟩
   · rw [hβnew i hi] at hb
     obtain ⟨_, _, r2, _⟩ := newb i hi b ln hb
     exact .inr r2
 · rcases hz2o b hb with h1 | h1
   · exact .inl h1
   · rcases c5 b h1 with h2 | h2
     · rcases hz1o b h2 with h3 | h3
       · exact .inl h3
       · exact .inr (.inl h3)
     · exact .inr (.inr h2)
end
end Go.Sx
namespace Go.Sx
section
variable {P : Program} {E : Env} {β0 β1 β2 β : Nat → Loc} {Z0 Z1 Z Z' : Nat → Prop} {hp : Hp} {w0 w1 w : World}
theorem allN_get {p : Nat → Prop} : ∀ {n : Nat}, allN n p → ∀ j, j < n → p j
 | 0, _, j, hj => absurd hj (Nat.not_lt_zero j)
 | n + 1, h, j, hj => by
   by_cases e : j = n
   · subst e; exact h.2
   · exact allN_get h.1 j (by omega)
theorem allM_get {p : Nat → Prop} {n : Nat} (h : allM n p) : ∀ j, j < n → p j := by
 unfold allM at h
 split at h
 · exact h
 · exact allN_get h
theorem fitP_ok : ∀ {x y : CV} {v : Value}, fitP x y → RP Z w x v → RP Z w y v := by
 intro x
 induction x with
 | vs s l g ih =>
   intro y v hf hx
   unfold fitP at hf
   split at hf
   case h_1 => exact RP.one hx
   case h_14 s1 l1 g1 s' l' g' e1 =>
     obtain ⟨rfl, rfl, rfl⟩ := (by injection e1 with a b c; exact ⟨a, b, c⟩ : s = s1 ∧ l = l1 ∧ g = g1)
     obtain ⟨hs, rfl, hcell⟩ := hf
     obtain rfl := Nat.eq_of_beq_eq_true (chk_iff.1 hs)
     obtain ⟨a, cap, rfl, h1, h2⟩ := hx
     refine ⟨a, cap, rfl, h1, fun hpos => ?_⟩
     obtain ⟨b, o, rfl, hz, hc⟩ := h2 hpos
     refine ⟨b, o, rfl, hz, fun i hi j hj => ?_⟩
     obtain ⟨u, hu, hr⟩ := hc i hi j hj
     exact ⟨u, hu, ih i j (allN_get (hcell i hi) j hj) hr⟩
   all_goals first
     | (rename_i e1; exact CV.noConfusion e1; done)
     | (rename_i e1 _; exact CV.noConfusion e1; done)
     | (subst hf; exact hx)
 | _ =>
   intro y v hf hx
   unfold fitP at hf
   split at hf <;> first
     | exact RP.one hx
     | (rename_i e1; exact CV.noConfusion e1; done)
     | (rename_i e1 _; exact CV.noConfusion e1; done)
     | exact hx
     | (subst hf; exact hx)
     | skip
   all_goals first
     | (rename_i e1; injection e1 with e1; subst e1; subst hf; exact hx)
     | (rename_i e1
        injection e1 with e1 e2
        subst e1; subst e2
        split at hf
        · rename_i hk
          rw [← kindNo_inj hk]
          subst hf; exact hx
        · exact hf.elim)
     | (subst hf
        obtain rfl : v = .slice none 0 0 := hx
        exact ⟨none, 0, rfl, Nat.le_refl _, fun h => absurd h (Nat.lt_irrefl 0)⟩)
structure Named (ρ : Nat → Src) (β1 β2 : Nat → Loc) : Prop where
 nm : ∀ m n, ρ m = .nm n → β2 m = β1 n
 virt : ∀ m, ρ m = .virt → β2 m = .virt
theorem isNm_ok {s : Src} {n : Nat} (h : isNm s n) : s = .nm n := by
 unfold isNm at h
 split at h
 · split at h
   · rename_i hb; rw [Nat.eq_of_beq_eq_true hb]
   · exact h.elim
 · exact h.elim
theorem isVirt_ok {s : Src} (h : isVirt s) : s = .virt := by
 unfold isVirt at h
 split at h
 · rfl
 · exact h.elim
theorem fitCV0_ok {ρ : Nat → Src} (hρ : Named ρ β1 β2) {x y : CV} {v : Value} (hf : fitCV0 ρ x y) (hx : RC β1 Z w x v) : RC β2 Z w y v := by
 unfold fitCV0 at hf
 split at hf
 · rename_i m sz len
   obtain ⟨h1, rfl⟩ := hf
   obtain rfl : v = .slice none 0 0 := hx
   show ROs w (β2 m) sz 0 _
   rw [hρ.virt m (isVirt_ok h1)]
   exact ⟨rfl, rfl⟩
 · obtain ⟨h1, rfl⟩ := hf
   obtain ⟨b, ln, hb, rfl⟩ := hx
   exact ⟨b, ln, by rw [hρ.nm _ _ (isNm_ok h1), hb], rfl⟩
 · rename_i n s l m s' l'
   obtain ⟨h1, h2, rfl⟩ := hf
   obtain rfl := Nat.eq_of_beq_eq_true (chk_iff.1 h2)
   have hx' : ROs w (β1 n) s l v := hx
   show ROs w (β2 m) s l v
   rw [hρ.nm _ _ (isNm_ok h1)]; exact hx'
 · obtain ⟨b, ln, hb, rfl⟩ := hx
   exact ⟨b, ln, by rw [hρ.nm _ _ (isNm_ok hf), hb], rfl⟩
 · exact RC.one hx
 · obtain ⟨h1, h2⟩ := hf
   exact RC.of_RP (fitP_ok h2 (RP.of_RC (chk_iff.1 h1) hx))
theorem fitCV_ok {ρ : Nat → Src} (hρ : Named ρ β1 β2) {x y : CV} {v : Value} (hf : fitCV ρ x y) (hx : RC β1 Z w x v) : RC β2 Z w y v := by
 unfold fitCV at hf
 split at hf
 · obtain ⟨h1, h2, h3⟩ := hf
   obtain rfl := Nat.eq_of_beq_eq_true (chk_iff.1 h1)
   obtain rfl := Nat.eq_of_beq_eq_true (chk_iff.1 h2)
   obtain ⟨fs, cs, rfl, k1, k2, k3, _⟩ := hx
   exact ⟨fs, cs, rfl, k1, k2, fun i hi => let ⟨u, hu, hr⟩ := k3 i hi; ⟨u, hu, fitCV0_ok hρ (allN_get h3 i hi) hr⟩, fun i s hs => by simp at hs⟩
 · exact fitCV0_ok hρ hf hx
theorem fitAV_ok {ρ : Nat → Src} (hρ : Named ρ β1 β2) {x y : AV} {v : Value} (hf : fitAV ρ x y) (hx : RA β1 Z w x v) : RA β2 Z w y v := by
 cases y with
 | any => trivial
 | tup l => cases x <;> exact hf.elim
 | t y =>
   cases x with
   | any => exact hf.elim
   | tup => exact hf.elim
   | t x =>
     cases x with
     | c x => cases y with
       | c y => exact fitCV_ok hρ hf hx
       | a n g => exact hf.elim
     | a n g => cases y with
       | c y => exact hf.elim
       | a n' g' =>
         obtain ⟨h1, h2⟩ := hf
         obtain rfl := Nat.eq_of_beq_eq_true (chk_iff.1 h1)
         obtain ⟨cs, rfl, h3, h4⟩ := hx
         exact ⟨cs, rfl, h3, fun j hj => let ⟨u, hu, hr⟩ := h4 j hj; ⟨u, hu, fitCV_ok hρ (allM_get h2 j hj) hr⟩⟩
theorem named_bad {β1 β2 : Nat → Loc} : Named (fun _ => Src.bad) β1 β2 := ⟨fun _ _ h => by simp at h, fun _ h => by simp at h⟩
theorem fitTV_ok {ρ : Nat → Src} {β1 β2 : Nat → Loc} (hρ : Named ρ β1 β2) {x y : TV} {v : Value} (hf : fitTV ρ x y) (hx : RT β1 Z w x v) : RT β2 Z w y v :=
 fitAV_ok (x := .t x) (y := .t y) hρ hf hx
theorem fitTVs_ok : ∀ {l r : List TV} {vs : List Value}, fitTVs l r → RL β Z w l vs → RL β Z w r vs
 | [], [], [], _, _ => trivial
 | [], [], _ :: _, _, h => h.elim
 | [], _ :: _, _, h, _ => h.elim
 | _ :: _, [], _, h, _ => h.elim
 | x :: _, _ :: _, [], _, h => by cases x <;> exact h.elim
 | _ :: _, _ :: _, _ :: _, h, h' => ⟨fitTV_ok named_bad h.1 h'.1, fitTVs_ok h.2 h'.2⟩
theorem fitBlk_ok {ρ : Nat → Src} (hρ : Named ρ β1 β2) {l : Loc} {x y : Blk} (hf : fitBlk ρ x y) (hx : RB β1 Z w l x) : RB β2 Z w l y := by
 unfold fitBlk at hf
 split at hf
 · obtain ⟨h1, h2⟩ := hf
   obtain rfl := Nat.eq_of_beq_eq_true (chk_iff.1 h1)
   cases l with
   | no => exact hx.elim
   | virt => exact hx.elim
   | «at» b ln =>
     obtain ⟨cs, e, a1, a2, a3⟩ := hx
     exact ⟨cs, e, a1, a2, fun j hj => let ⟨u, hu, hr⟩ := a3 j hj; ⟨u, hu, fitCV_ok hρ (allM_get h2 j hj) hr⟩⟩
 · obtain ⟨h1, h2, rfl, h3⟩ := hf
   obtain rfl := Nat.eq_of_beq_eq_true (chk_iff.1 h1)
   obtain rfl := Nat.eq_of_beq_eq_true (chk_iff.1 h2)
   cases l with
   | no => exact hx.elim
   | virt => exact hx
   | «at» b ln =>
     obtain ⟨a0, cs, a1, a2, a3⟩ := hx
     exact ⟨a0, cs, a1, a2, fun i hi j hj => let ⟨u, hu, hr⟩ := a3 i hi j hj; ⟨u, hu, fitP_ok (allN_get (h3 i hi) j hj) hr⟩⟩
 · obtain ⟨h1, h2⟩ := hf
   obtain rfl := sameT_eq (chk_iff.1 h1)
   cases l with
   | no => exact hx.elim
   | virt => exact hx.elim
   | «at» b ln =>
     rename_i m m'
     obtain rfl : m = m' := funext h2
     exact hx
 · obtain ⟨h1, h2⟩ := hf
   obtain rfl := sameT_eq (chk_iff.1 h1)
   cases l with
   | no => exact hx.elim
   | virt => exact hx.elim
   | «at» b ln =>
     obtain ⟨es, clock, a1, a2⟩ := hx
     exact ⟨es, clock, _, a1, a2, h2⟩
 · obtain ⟨h1, h2⟩ := hf
   obtain rfl := sameT_eq (chk_iff.1 h1)
   cases l with
   | no => exact hx.elim
   | virt => exact hx.elim
   | «at» b ln =>
     obtain ⟨es, clock, m, a1, a2, a3⟩ := hx
     exact ⟨es, clock, m, a1, a2, fun ks x h => h2 ks x (a3 ks x h)⟩
 · obtain ⟨h1, h2, rfl⟩ := hf
   obtain rfl := sameT_eq (chk_iff.1 h1)
   cases l with
   | no => exact hx.elim
   | virt => exact hx.elim
   | «at» b ln =>
     rename_i m c m'
     obtain rfl : m = m' := funext h2
     exact hx
 · obtain ⟨h1, h2⟩ := hf
   obtain rfl := sameT_eq (chk_iff.1 h1)
   cases l with
   | no => exact hx.elim
   | virt => exact hx.elim
   | «at» b ln =>
     rename_i m c m'
     obtain rfl : fstM m = m' := funext h2
     obtain ⟨es, a1, a2⟩ := hx
     exact ⟨es, c, a1, a2.base⟩
 · exact hf.elim
end
end Go.Sx
namespace Go.Sx
def Fn (ro : Option Nat) : Fence := { Fence.wide with round := ro }
structure Sat (E : Env) (st : St) (β : Nat → Loc) (Z : Nat → Prop) (a : Act) (w : World) : Prop where
 heap : SatH E 0 (fun n => st.nx ≤ n) β Z st.hp w
 tm : ∀ t, RA β Z w (st.tm t) (a.tmps.getD t undef)
 sz : a.tmps.size = st.sz
def HS.of (st : St) (β : Nat → Loc) (Z : Nat → Prop) (w : World) : HS := ⟨β, Z, st.hp, st.nx, st.wl, w⟩
structure EnvOk (P : Program) (E : Env) : Prop where
 tab : TabOk P E
 fn : ∀ f fn, E.fn f = some fn → P.funcs[f]? = some fn
 runs : ∀ f, (E.fn f).isSome = true ∨ (E.sig f).isSome = true → ∃ fn c, P.funcs[f]? = some fn ∧ (fn.name == "runtime.NumGoroutine") = false ∧ fn.body = some c
 sig : ∀ f s x, E.sig f = some s → s.pre x → CallQ P E f (s.arg x) (s.res x)
 mix : P.follows .mixedOrders = true
 maps : MapsOk P E
 again : ∀ f R g, E.again f = some R → R.ok g → SemRec P E f R g
 kept : ∀ f R g, E.kept f = some R → R.ok g → SemK P E f R g
 even : ∀ f R g, E.even f = some R → R.ok g → SemK P E f R.toK g
def CallPost (E : Env) (x : HS) (K : AV → Hp → Nat → List Nat → Prop) : Ending → World → Prop := fun e w' =>
 ∃ val v y, e = .returned val ∧ K v y.hp y.nx y.wl ∧ y.w = w' ∧ y.ok E ∧ RA y.β y.Z w' v val ∧ Turn x y
def InlOk (P : Program) (E : Env) (inl : CallVC) : Prop :=
 ∀ (f : FuncId) (args : List TV) (x : HS) K, inl f args x.hp x.nx x.wl K → x.ok E → ∀ vs : List Value, RL x.β x.Z x.w args vs → CallsIn Fence.wide 0 P f vs.toArray x.w (CallPost E x K)
def InlFn (E : Env) (inl : CallVC) : Prop := ∀ f args hp nx wl K, inl f args hp nx wl K → (E.fn f).isSome = true
def YldOk (P : Program) (E : Env) (yld : YieldVC) : Prop :=
 ∀ (n : Nat) (args : List TV) (x : HS) K, yld n args x.hp x.nx x.wl K → x.ok E → ∀ vs : List Value, RL x.β x.Z x.w args vs → ∃ b ln r, x.β n = .at b ln ∧ x.w.heap[b]? = some (.loop r) ∧ vs.toArray.size = r.params.size ∧
   RoundIn Fence.wide 0 P b r.fn ((r.params.zip vs.toArray).foldl (fun tmps (t, a) => tmps.setIfInBounds t a) r.tmps) r.assign r.body x.w (CallPost E x K)
def OpPost (E : Env) (x : HS) (sz : Nat) (dst : Option Nat) (a : Act) (K : St → Prop) : Act → World → Prop := fun a' w' =>
 ∃ st' β' Z', K st' ∧ Sat E st' β' Z' a' w' ∧ Turn x (HS.of st' β' Z' w') ∧ st'.sz = sz ∧ (∀ t, dst ≠ some t → a'.tmps.getD t undef = a.tmps.getD t undef) ∧ a'.defers = a.defers
section
variable {P : Program} {E : Env} {β β' : Nat → Loc} {Z Z' : Nat → Prop} {hp : Hp} {w w' : World} {inl : CallVC} {yld : YieldVC}
theorem getD_put {a : Act} {dst : Option Nat} {v : Value} {t : Nat} : (a.put dst v).tmps.getD t undef = if dst = some t ∧ t < a.tmps.size then v else a.tmps.getD t undef := by
 cases dst with
 | none => simp [Act.put]
 | some d =>
   simp only [Act.put, Option.some.injEq]
   by_cases h : d = t
   · subst h
     by_cases h2 : d < a.tmps.size
     · simp [h2, Array.getD]
     · simp [h2, Array.getD]
   · simp only [h, false_and, if_false]
     simp [Array.getD_eq_getD_getElem?, Array.getElem?_setIfInBounds_ne h]
theorem Sat.next {st : St} {a : Act} {dst : Option Nat} {v : AV} {val : Value} {y : HS} (hs : Sat E st β Z a w) (hd : st.has dst = true) (hy : y.ok E) (hev : Evo (Own β st.hp) Z w y.Z y.w) (hext : Ext β y.β)
   (hv : RA y.β y.Z y.w v val) : Sat E (st.next dst v y.hp y.nx y.wl) y.β y.Z (a.put dst val) y.w := by
 refine ⟨hy, fun t => ?_, ?_⟩
 · have old := RA.mono hev hs.heap.calm hext (hs.tm t)
   rw [getD_put]
   cases dst with
   | none => simp only [St.next]; rw [if_neg (by simp)]; exact old
   | some d =>
     simp only [St.next]
     by_cases h : d = t
     · subst h
       have hlt : d < a.tmps.size := by
         rw [hs.sz]; simp only [St.has] at hd; exact Nat.le_of_ble_eq_true hd
       rw [if_pos ⟨rfl, hlt⟩, upd_same]; exact hv
     · rw [if_neg (by simp [h]), upd_ne _ _ (Ne.symm h)]; exact old
 · have : (a.put dst val).tmps.size = a.tmps.size := by cases dst <;> simp [Act.put]
   rw [this]; exact hs.sz
theorem OpPost.of {st : St} {a : Act} {dst : Option Nat} {v : AV} {val : Value} {y : HS} {K : St → Prop} (hs : Sat E st β Z a w) (hd : st.has dst = true) (hy : y.ok E) (ht : Turn (HS.of st β Z w) y)
   (hv : RA y.β y.Z y.w v val) (hk : K (st.next dst v y.hp y.nx y.wl)) : OpPost E (HS.of st β Z w) st.sz dst a K (a.put dst val) y.w := by
 refine ⟨_, y.β, y.Z, hk, hs.next hd hy ht.ev ht.ext hv, ht, rfl, fun t h => ?_, ?_⟩
 · rw [getD_put, if_neg (fun hh => h hh.1)]
 · cases dst <;> rfl
def noCall : Plan → Prop
 | .call _ _ => False
 | .ycall _ _ => False
 | _ => True
theorem okBad.noCall {p : Plan} (h : okBad p) : noCall p := by cases p <;> first | trivial | exact h.elim
theorem noCall_need {b : Bool} {p : Plan} (h : noCall p) : noCall (need b p) := by cases b <;> trivial
theorem noCall_store {ti : TI} {x y : AV} : noCall (planStore hp ti x y) := by
 unfold planStore; repeat' split
 all_goals first | trivial | exact noCall_need trivial
theorem noCall_storeF {ti : TI} {x y : AV} : noCall (planStoreF hp ti x y) := by
 unfold planStoreF; repeat' split
 all_goals first | trivial | exact noCall_store
theorem noCall_buildSlice {ti : TI} {n : Nat} {l : List (Nat × AV)} : noCall (planBuildSlice E ti n l) := by
 unfold planBuildSlice; repeat' split
 all_goals first | trivial | exact noCall_need trivial
theorem noCall_makeSlice {ti : TI} {x y : AV} : noCall (planMakeSlice E ti x y) := by
 unfold planMakeSlice; repeat' split
 all_goals first | trivial | exact noCall_need trivial
theorem noCall_append {ti : TI} {x y : AV} : noCall (planAppend E hp ti x y) := by
 unfold planAppend Plan.cell; repeat' split
 all_goals first | trivial | exact noCall_need trivial
theorem noCall_slice {ti : TI} {x : AV} {a b c : Option AV} : noCall (planSlice E hp ti x a b c) := by
 unfold planSlice Plan.cell; repeat' split
 all_goals first | trivial | exact noCall_need trivial
theorem noCall_buildF {ti : TI} {l : List (Nat × AV)} : noCall (planBuildF hp E ti l) := by
 obtain ⟨h1, h2⟩ := noCallF_build (hp := hp) (E := E) (ti := ti) (l := l)
 generalize planBuildF hp E ti l = p at h1 h2
 cases p <;> first | trivial | exact absurd rfl (h1 _ _) | exact absurd rfl (h2 _ _)
theorem noCall_update {T : MapT} {x k y : AV} : noCall (planMapUpdate hp T x k y) := by
 unfold planMapUpdate; repeat' split
 all_goals first | trivial | exact noCall_need trivial
theorem noCall_upd {T : MapT} {x k y : AV} : noCall (planMapUpd hp T x k y) := by
 unfold planMapUpd; repeat' split
 all_goals first | trivial | exact noCall_need trivial | exact noCall_update
theorem noCall_delete {T : MapT} {x k : AV} : noCall (planDelete hp T x k) := by
 unfold planDelete; repeat' split
 all_goals first | trivial | exact noCall_need trivial
theorem noCall_entry {T : MapT} {x k : AV} : noCall (planEntry hp T x k) := by
 unfold planEntry; repeat' split
 all_goals first | trivial | exact noCall_need trivial
theorem noCall_entryStore {T : MapT} {x s v : AV} : noCall (planEntryStore hp T x s v) := by
 unfold planEntryStore; repeat' split
 all_goals first | trivial | exact noCall_need trivial
theorem plan_call {tm : Nat → AV} {o : Oper} (h : ¬ noCall (planOp E tm hp o)) : ∃ c fo l, o.op = .call c ∧ c.callee = .value fo ∧ argTVs E tm c.args.toList = some l ∧
   ((∃ g sh first nc cap, evalO E tm fo = .t (.c (.fn g sh first nc cap)) ∧ planOp E tm hp o = .call g (firstsOf sh first 0 ++ l ++ capsOf cap nc 0)) ∨ (∃ n, evalO E tm fo = .t (.c (.yl n)) ∧ planOp E tm hp o = .ycall n l)) := by
 generalize hp0 : planOp E tm hp o = p at h ⊢
 have no : noCall p → ∀ {q : Prop}, q := fun h1 => absurd h1 h
 unfold planOp at hp0
 dsimp only at hp0
 split at hp0
 case h_23 c hop =>
   unfold planCall at hp0
   split at hp0
   · repeat' split at hp0
     all_goals (subst hp0; first | exact absurd trivial h | exact absurd okBad_len.noCall h)
   · repeat' split at hp0
     all_goals (subst hp0; first | exact absurd trivial h | exact absurd (noCall_need noCall_append) h | exact absurd (noCall_need (p := .bad) trivial) h)
   · subst hp0; exact absurd okBad_mm.noCall h
   · subst hp0; exact absurd okBad_mm.noCall h
   · repeat' split at hp0
     all_goals (subst hp0; first | exact absurd trivial h | exact absurd noCall_delete h)
   · rename_i fo hcal
     split at hp0
     · rename_i g sh first nc cap l e1 e2
       exact ⟨c, fo, l, hop, hcal, e2, .inl ⟨g, sh, first, nc, cap, e1, hp0.symm⟩⟩
     · rename_i n l e1 e2
       exact ⟨c, fo, l, hop, hcal, e2, .inr ⟨n, e1, hp0.symm⟩⟩
     · subst hp0; exact absurd trivial h
   · subst hp0; exact absurd trivial h
 all_goals first
   | (subst hp0; exact absurd trivial h)
   | (subst hp0; exact absurd (okBad_cP okBad_un).noCall h)
   | (subst hp0; exact absurd okBad_func.noCall h)
   | (repeat' split at hp0
      all_goals (subst hp0; first
        | exact absurd trivial h
        | exact absurd okBad_build.noCall h
        | exact absurd noCall_buildF h
        | exact absurd noCall_buildSlice h
        | exact absurd (okBad_cP okBad_load).noCall h
        | exact absurd noCall_storeF h
        | exact absurd okBad_binC.noCall h
        | exact absurd okBad_conv.noCall h
        | exact absurd noCall_makeSlice h
        | exact absurd noCall_slice h
        | exact absurd okBad_fieldAddr.noCall h
        | exact absurd okBad_field.noCall h
        | exact absurd okBad_indexAddr.noCall h
        | exact absurd (okBad_cP okBad_index).noCall h
        | exact absurd (okBad_cP okBad_lookup).noCall h
        | exact absurd noCall_upd h
        | exact absurd noCall_entry h
        | exact absurd noCall_entryStore h
        | (refine absurd (noCall_need ?_) h; trivial)))
theorem RL.append : ∀ {l l' : List TV} {r r' : List Value}, RL β Z w l r → RL β Z w l' r' → RL β Z w (l ++ l') (r ++ r')
 | [], l', [], r', _, h => h
 | x :: l, l', v :: r, r', h, h' => ⟨h.1, RL.append h.2 h'⟩
 | [], _, _ :: _, _, h, _ => h.elim
 | x :: _, _, [], _, h, _ => by cases x <;> exact h.elim
theorem firsts_ok {first : Nat → Nat → CV} : ∀ {sh : List (Option Nat)} {fs : List Value} {i : Nat}, fs.length = sh.length →
   (∀ (k : Nat) (s : Option Nat), sh[k]? = some s → ∃ u, fs[k]? = some u ∧ (match s with
       | none => RC β Z w (first (i + k) 0) u
       | some n => ∃ xs : Array Value, u = Value.agg xs ∧ xs.size = n ∧ ∀ j, j < n → ∃ y, xs[j]? = some y ∧ RC β Z w (first (i + k) j) y)) → RL β Z w (firstsOf sh first i) fs
 | [], [], i, _, _ => trivial
 | [], _ :: _, _, h, _ => by simp at h
 | _ :: _, [], _, h, _ => by simp at h
 | s :: sh, f :: fs, i, hl, h => by
   have tail : RL β Z w (firstsOf sh first (i + 1)) fs := firsts_ok (by simpa using hl) (fun k s hk => by
     obtain ⟨u, hu, hr⟩ := h (k + 1) s (by simpa using hk)
     refine ⟨u, by simpa using hu, ?_⟩
     rw [show i + 1 + k = i + (k + 1) by omega]; exact hr)
   obtain ⟨u, hu, hr⟩ := h 0 s rfl
   simp only [List.getElem?_cons_zero, Option.some.injEq] at hu
   subst hu
   cases s with
   | none => exact ⟨hr, tail⟩
   | some n => exact ⟨hr, tail⟩
theorem caps_ok {cap : Nat → CV} : ∀ {nc i : Nat} {cs : List Value}, cs.length = nc → (∀ k, k < nc → ∃ u, cs[k]? = some u ∧ RC β Z w (cap (i + k)) u) → RL β Z w (capsOf cap nc i) cs
 | 0, _, [], _, _ => trivial
 | 0, _, _ :: _, h, _ => by simp at h
 | _ + 1, _, [], h, _ => by simp at h
 | nc + 1, i, c :: cs, hl, h => by
   obtain ⟨u, hu, hr⟩ := h 0 (by omega)
   simp only [List.getElem?_cons_zero, Option.some.injEq] at hu
   subst hu
   refine ⟨hr, caps_ok (by simpa using hl) (fun k hk => ?_)⟩
   obtain ⟨u, hu, hr⟩ := h (k + 1) (by omega)
   exact ⟨u, by simpa using hu, by rw [show i + 1 + k = i + (k + 1) by omega]; exact hr⟩
theorem fn_ok {g : FuncId} {sh : List (Option Nat)} {first : Nat → Nat → CV} {nc : Nat} {cap : Nat → CV} {v : Value} (hv : RC β Z w (.fn g sh first nc cap) v) :
   ∃ fs cs : Array Value, v = .func (.func g) fs cs ∧ RL β Z w (firstsOf sh first 0) fs.toList ∧ RL β Z w (capsOf cap nc 0) cs.toList := by
 obtain ⟨fs, cs, rfl, h1, h2, h3, h4⟩ := hv
 refine ⟨fs, cs, rfl, firsts_ok (by simpa using h1) (fun k s hk => ?_), caps_ok (by simpa using h2) (fun k hk => ?_)⟩
 · obtain ⟨u, hu, hr⟩ := h4 k s hk
   exact ⟨u, by simpa using hu, by rw [Nat.zero_add]; exact hr⟩
 · obtain ⟨u, hu, hr⟩ := h3 k hk
   exact ⟨u, by simpa using hu, by rw [Nat.zero_add]; exact hr⟩
theorem run_enter {f : FuncId} {args : Array Value} (hf : ∃ fn c, P.funcs[f]? = some fn ∧ (fn.name == "runtime.NumGoroutine") = false ∧ fn.body = some c) : (callFunc f args).run P w = .ok (.enter f args) w := by
 obtain ⟨fn, c, h1, h2, h3⟩ := hf
 have h2' : ¬ fn.name = "runtime.NumGoroutine" := fun e => by rw [e] at h2; simp at h2
 simp [callFunc, h1, h2', h3]
def Plan.log : Plan → List Nat
 | .wr _ n _ => [n]
 | .we _ n _ _ => [n]
 | .mv _ n _ _ => [n]
 | .fz _ n _ => [n]
 | .wz _ n _ m => [n, m]
 | _ => []
theorem vcStep_eff {p : Plan} {st : St} {dst : Option Nat} {K : St → Prop} {hp' : Hp} {v : AV} (h : vcStep E inl yld dst p st K) (he : p.eff st.nx st.hp = some (hp', v)) :
   AllP p.conds ∧ K (st.next dst v hp' (st.nx + 4) (p.log ++ st.wl)) ∧ ∀ n, n < st.nx → n ∉ p.log ++ st.wl → hp' n = st.hp n := by
 cases p <;> simp only [Plan.eff, Option.some.injEq, Prod.mk.injEq, reduceCtorEq] at he <;> simp only [vcStep, conj_iff] at h <;> obtain ⟨rfl, rfl⟩ := he
 · exact ⟨h.1, h.2, fun _ _ _ => rfl⟩
 · exact ⟨h.1, h.2, fun n hn _ => by rw [upd_ne _ _ (by omega)]⟩
 · exact ⟨h.1, h.2, fun n hn hl => by rw [upd_ne _ _ (fun e => hl (by simp [Plan.log, e]))]⟩
 · exact ⟨h.1, h.2, fun n hn hl => by rw [upd_ne _ _ (fun e => hl (by simp [Plan.log, e]))]⟩
 · exact ⟨h.1, h.2, fun n hn hl => by rw [upd_ne _ _ (by omega), upd_ne _ _ (fun e => hl (by simp [Plan.log, e]))]⟩
 · exact ⟨h.1, h.2, fun n hn hl => by rw [upd_ne _ _ (fun e => hl (by simp [Plan.log, e]))]⟩
 · exact ⟨h.1, h.2, fun n hn hl => by rw [upd_ne _ _ (fun e => hl (by simp [Plan.log, e])), upd_ne _ _ (fun e => hl (by simp [Plan.log, e]))]⟩
theorem noDefer {tm : Nat → AV} {o : Oper} {st : St} {dst : Option Nat} {K : St → Prop} (h : vcStep E inl yld dst (planOp E tm hp o) st K) : ∀ c, o.op ≠ .defer c := by
 intro c hc
 have : planOp E tm hp o = .bad := by unfold planOp; rw [hc]
 rw [this] at h
 exact h
theorem dropAll_get : ∀ {l : List Nat} {n : Nat}, n ∉ l → dropAll hp l n = hp n
 | [], n, _ => rfl
 | m :: l, n, h => by
   simp only [List.mem_cons, not_or] at h
   simp only [dropAll]
   rw [upd_ne _ _ h.1, dropAll_get h.2]
theorem dropAll_some : ∀ {l : List Nat} {n : Nat} {blk : Blk}, dropAll hp l n = some blk → n ∉ l ∧ hp n = some blk
 | [], n, blk, h => ⟨by simp, h⟩
 | m :: l, n, blk, h => by
   simp only [dropAll] at h
   by_cases e : n = m
   · subst e; rw [upd_same] at h; simp at h
   · rw [upd_ne _ _ e] at h
     obtain ⟨h1, h2⟩ := dropAll_some h
     exact ⟨by simp [e, h1], h2⟩
theorem sig_core (hE : EnvOk P E) {f : FuncId} {s : Sig} (hsig : E.sig f = some s) {x : s.α} {args pargs : List TV} (hq : fitTVs pargs (s.arg x) ∧ s.pre x) {nx : Nat} {Fr : Nat → Prop} (hok : SatH E 0 Fr β Z hp w) (hFr : ∀ n, nx ≤ n → n < nx + 4 → Fr n) {hpS : Hp} (hsub : ∀ n blk, hpS n = some blk → hp n = some blk)
   (hpure : pureTVs hpS args = some pargs) (hle : (Nat.ble (ownCount (s.res x)) 4 && pureRVs (s.res x)) = true) {vs : List Value} (hr : RL β Z w args vs)
   {base : Hp} (hmode : (ownTVs args = [] ∧ base = hp) ∨ (flatRVs (s.res x) = true ∧ AllP (flatOwns (s.res x)) ∧ base = hp) ∨ base = dropAll hp (ownTVs args)) :
   CallsIn Fence.wide 0 P f vs.toArray w fun e w' => ∃ val β' Z', e = .returned val ∧ Left E 0 (fun n => Fr n ∧ ¬ (nx ≤ n ∧ n < nx + 4)) β Z hp w β' Z' (resHp base (s.res x) nx) w' ∧ RA β' Z' w' (resAV (resTVs (s.res x) nx)) val := by
 simp only [Bool.and_eq_true] at hle
 have hle4 := Nat.le_of_ble_eq_true hle.1
 let Z1 := Zargs β Z hp (ownTVs args)
 have hz1lt : ∀ b, Z1 b → b < w.heap.size := fun b hb => Zargs.lt hok b hb
 have hz1 : ∀ b, Z b → Z1 b := fun b hb => .inl hb
 have hz1o : ∀ b, Z1 b → Z b ∨ Own β hp b := fun b hb => hb.imp id (fun ⟨n, blk, ln, _, h1, h2⟩ => ⟨n, blk, ln, h1, h2⟩)
 have hsat0 : SatH E 0 (fun _ => True) (fun _ => .no) Z1 (fun _ => none) w :=
   ⟨fun n blk h => by simp at h, fun n blk b ln h => by simp at h, fun n m x y b l1 l2 h => by simp at h, hz1lt, fun _ _ => rfl, hok.gl.mono (own := fun _ => False) (Evo.zup hz1) (fun b hb => ⟨hok.zlt b hb, fun h => h⟩)⟩
 have hargs : RL (fun _ => .no) Z1 w pargs vs := pureTVs_ok hok hsub hr (fun n hn => hn) hpure
 refine CallsIn.mono (hE.sig f s x hsig hq.2 Z1 w vs hsat0 (fitTVs_ok hq.1 hargs)) fun e w' hpost => ?_
 obtain ⟨val, β1, Z1', rfl, c1, c2, c3, c4, c5⟩ := hpost
 have hZ1' : ∀ b, Z b → Z1' b := fun b hb => c3.zmono b (hz1 b hb)
 have key : ∀ (Z2 : Nat → Prop), (∀ n blk, base n = some blk → hp n = some blk) → (∀ b, Z b → Z2 b) → (∀ b, Z2 b → Z b ∨ Z1' b) → (∀ n blk b ln, base n = some blk → β n = .at b ln → ¬ Z2 b) → Carry (s.res x) Z1' Z2 →
     ∃ val' β' Z', Ending.returned val = .returned val' ∧ Left E 0 (fun n => Fr n ∧ ¬ (nx ≤ n ∧ n < nx + 4)) β Z hp w β' Z' (resHp base (s.res x) nx) w' ∧ RA β' Z' w' (resAV (resTVs (s.res x) nx)) val' := by
   intro Z2 k1 k2 k3 k4 k5
   obtain ⟨β2, r1, r2, r3, r4, r5, r6, _⟩ := back_ok hok hFr hle4 hz1 hz1lt hz1o c1 c2 c3 c4 c5 k1 k2 k3 k4 k5
   exact ⟨val, β2, Z2, rfl, ⟨r1, r3, r4, r5, r6⟩, r2⟩
 rcases hmode with ⟨h1, rfl⟩ | ⟨h1, h2, rfl⟩ | rfl
 · refine key Z1' (fun n blk h => h) hZ1' (fun b hb => .inr hb) (fun n blk b ln hn hb hz => ?_) (.pure (fun _ h => h) hle.2)
   have ho := hok.own n blk b ln hn hb
   rcases c5 b hz with h3 | h3
   · rcases h3 with h3 | ⟨m, _, _, hm, _⟩
     · exact ho.2.1 h3
     · rw [h1] at hm; simp at hm
   · omega
 · exact key Z (fun n blk h => h) (fun _ h => h) (fun b hb => .inl hb) (fun n blk b ln hn hb hz => (hok.own n blk b ln hn hb).2.1 hz) (.flat h1 h2)
 · refine key Z1' (fun n blk h => (dropAll_some h).2) hZ1' (fun b hb => .inr hb) (fun n blk b ln hn hb hz => ?_) (.pure (fun _ h => h) hle.2)
   obtain ⟨hn1, hn2⟩ := dropAll_some hn
   have ho := hok.own n blk b ln hn2 hb
   rcases c5 b hz with h3 | h3
   · rcases h3 with h3 | ⟨m, blk', ln', hm, h4, h5⟩
     · exact ho.2.1 h3
     · have := hok.inj n m blk blk' b ln ln' hn2 h4 hb h5
       subst this; exact hn1 hm
   · omega
theorem sig_ok (hE : EnvOk P E) {f : FuncId} {s : Sig} (hsig : E.sig f = some s) {x : s.α} {args pargs : List TV} (hq : fitTVs pargs (s.arg x) ∧ s.pre x) {hs : HS} (hok : hs.ok E) {hpS : Hp} (hsub : ∀ n blk, hpS n = some blk → hs.hp n = some blk)
   (hpure : pureTVs hpS args = some pargs) (hle : (Nat.ble (ownCount (s.res x)) 4 && pureRVs (s.res x)) = true) {vs : List Value} (hr : RL hs.β hs.Z hs.w args vs)
   {base : Hp} {wl : List Nat} (hmode : (ownTVs args = [] ∧ base = hs.hp ∧ wl = hs.wl) ∨ (flatRVs (s.res x) = true ∧ AllP (flatOwns (s.res x)) ∧ base = hs.hp ∧ wl = hs.wl) ∨ (base = dropAll hs.hp (ownTVs args) ∧ wl = ownTVs args ++ hs.wl)) :
   CallsIn Fence.wide 0 P f vs.toArray hs.w fun e w' => ∃ val y, e = .returned val ∧ y.hp = resHp base (s.res x) hs.nx ∧ y.nx = hs.nx + 4 ∧ y.wl = wl ∧ y.w = w' ∧ y.ok E ∧ RA y.β y.Z w' (resAV (resTVs (s.res x) hs.nx)) val ∧ Turn hs y := by
 have hw : (∀ n, n ∈ hs.wl → n ∈ wl) ∧ (∀ n, n ∉ wl → base n = hs.hp n) := by
   rcases hmode with ⟨_, rfl, rfl⟩ | ⟨_, _, rfl, rfl⟩ | ⟨rfl, rfl⟩
   · exact ⟨fun _ h => h, fun _ _ => rfl⟩
   · exact ⟨fun _ h => h, fun _ _ => rfl⟩
   · exact ⟨fun n hn => by simp [hn], fun n hn => dropAll_get (fun h => hn (by simp [h]))⟩
 refine CallsIn.mono (sig_core hE hsig hq hok (nx := hs.nx) (fun n h _ => h) hsub hpure hle hr (base := base) (by
   rcases hmode with ⟨h1, h2, _⟩ | ⟨h1, h2, h3, _⟩ | ⟨h1, _⟩
   · exact .inl ⟨h1, h2⟩
   · exact .inr (.inl ⟨h1, h2, h3⟩)
   · exact .inr (.inr h1))) fun e w' hpost => ?_
 obtain ⟨val, β', Z', rfl, hl, hv⟩ := hpost
 refine ⟨val, ⟨β', Z', resHp base (s.res x) hs.nx, hs.nx + 4, wl, w'⟩, rfl, rfl, rfl, rfl, rfl, hl.sat.weaken (fun n (hn : hs.nx + 4 ≤ n) => ⟨by omega, by omega⟩), hv, ⟨hl.ev, hl.ext, hl.own, hl.zown, Nat.le_add_right _ _, hw.1, fun n hn hnw => (resHp_get (.inl hn)).trans (hw.2 n hnw)⟩⟩
theorem step_sound (hE : EnvOk P E) (hI : InlOk P E inl) (hIf : InlFn E inl) (hY : YldOk P E yld) {o : Oper} {st : St} {K : St → Prop} {a : Act} {ro : Option Nat} {Q' : Exit → Act → World → Prop} (hh : st.has o.dst = true)
   (h : vcStep E inl yld o.dst (planOp E st.tm st.hp o) st K) (hs : Sat E st β Z a w) : o.wpIn (Fn ro) 0 P a w (OpPost E (HS.of st β Z w) st.sz o.dst a K) Q' := by
 refine ⟨fun _ _ => trivial, ?_⟩
 rw [Oper.semAt_eq _ _ _ (noDefer h)]
 by_cases hnc : noCall (planOp E st.tm st.hp o)
 · cases he : (planOp E st.tm st.hp o).eff st.nx st.hp with
   | none =>
     cases hp0 : planOp E st.tm st.hp o <;> rw [hp0] at he hnc h <;> first | (simp [Plan.eff] at he; done) | exact hnc.elim | exact h.elim
   | some r =>
     obtain ⟨hp', v⟩ := r
     obtain ⟨h1, h2, h3⟩ := vcStep_eff h he
     obtain ⟨nx, val, w', β', Z', hrun, hnx, hl, hv⟩ := op_ok hE.tab hE.maps hs.heap (Nat.zero_le _) (nm := st.nx) (Nat.le_refl _) (fun n blk h => h) hs.tm h1 he
     have hy : (⟨β', Z', hp', st.nx + 4, (planOp E st.tm st.hp o).log ++ st.wl, w'⟩ : HS).ok E := hl.sat.weaken (fun n (hn : st.nx + 4 ≤ n) => ⟨by omega, by omega⟩)
     have hT : Turn (HS.of st β Z w) ⟨β', Z', hp', st.nx + 4, (planOp E st.tm st.hp o).log ++ st.wl, w'⟩ :=
       ⟨hl.ev, hl.ext, hl.own, hl.zown, Nat.le_add_right _ _, fun n hn => by simp [HS.of] at hn; simp [hn], h3⟩
     rw [hrun]
     rcases hnx with rfl | ⟨rfl, rfl⟩
     · exact OpPost.of hs hh hy hT hv h2
     · exact OpPost.of hs hh hy hT hv h2
 · obtain ⟨c, fo, l, hop, hcal, hargs, hcase⟩ := plan_call hnc
   have hl := args_ok hs.heap.gl hs.tm hargs
   have hfo := eval_ok hs.heap.gl hs.tm fo
   have hex : execOp a.eval o = (do let d ← resolve a.eval c o.type; invoke d.target d.args) := by simp [execOp, hop]
   rw [hex]
   rcases hcase with ⟨g, sh, first, nc, cap, hev, hplan⟩ | ⟨n, hev, hplan⟩
   · rw [hplan] at h
     rw [hev] at hfo
     obtain ⟨fs, cs, hv, q1, q2⟩ := fn_ok hfo
     have hrl : RL β Z w (firstsOf sh first 0 ++ l ++ capsOf cap nc 0) (fs.toList ++ c.args.toList.map a.eval ++ cs.toList) := (q1.append hl).append q2
     have hruns : (E.fn g).isSome = true ∨ (E.sig g).isSome = true → (do let d ← resolve a.eval c o.type; invoke d.target d.args : Sem Next).run P w = .ok (.enter g (fs.toList ++ c.args.toList.map a.eval ++ cs.toList).toArray) w := fun hg => by
       have := run_enter (w := w) (args := (fs ++ c.args.map a.eval) ++ cs) (hE.runs g hg)
       simp only [resolve, hcal, hv, Deferred.ofValue, Sem.run_bind, Sem.run_pure, Result.andThen_ok, invoke]
       rw [this]
       congr 2
       apply Array.ext'
       simp
     simp only [vcStep] at h
     split at h
     · rename_i s hsig
       rw [hruns (.inr (by rw [hsig]; rfl))]
       refine ⟨fun hd => by simp [Fn, Fence.wide] at hd, ?_⟩
       split at h
       · rename_i pargs hpure
         obtain ⟨x, hq1, hq2, h⟩ := h
         have hq := And.intro hq1 hq2
         split at h
         · rename_i hle
           have fin : ∀ {base : Hp} {wl : List Nat}, ((ownTVs (firstsOf sh first 0 ++ l ++ capsOf cap nc 0) = [] ∧ base = st.hp ∧ wl = st.wl) ∨ (flatRVs (s.res x) = true ∧ AllP (flatOwns (s.res x)) ∧ base = st.hp ∧ wl = st.wl) ∨ (base = dropAll st.hp (ownTVs (firstsOf sh first 0 ++ l ++ capsOf cap nc 0)) ∧ wl = ownTVs (firstsOf sh first 0 ++ l ++ capsOf cap nc 0) ++ st.wl)) →
               K (st.next o.dst (resAV (resTVs (s.res x) st.nx)) (resHp base (s.res x) st.nx) (st.nx + 4) wl) → _ := fun {base wl} hmode hk =>
             CallsIn.mono (sig_ok hE hsig hq (hs := HS.of st β Z w) hs.heap (fun n blk h => h) hpure hle hrl hmode) (R' := fun
               | .returned v, w' => OpPost E (HS.of st β Z w) st.sz o.dst a K (a.put o.dst v) w'
               | .panicked chain, w' => Q' (.panic chain) a w'
               | .outgrown, _ => LetsOut Q') fun e w' ⟨val, y, he, y1, y2, y3, y4, y5, y6, y7⟩ => by
                 subst he; subst y4
                 exact OpPost.of hs hh y5 y7 y6 (by rw [y1, y2, y3]; exact hk)
           split at h
           · rename_i hemp
             exact fin (.inl ⟨by simpa [List.isEmpty_iff] using hemp, rfl, rfl⟩) h
           · split at h
             · rename_i hfl
               rw [conj_iff] at h
               exact fin (.inr (.inl ⟨hfl, h.1, rfl, rfl⟩)) h.2
             · exact fin (.inr (.inr ⟨rfl, rfl⟩)) h
         · exact h.elim
       · exact h.elim
     · rename_i hsig
       rw [hruns (.inl (hIf _ _ _ _ _ _ h))]
       refine ⟨fun hd => by simp [Fn, Fence.wide] at hd, ?_⟩
       refine CallsIn.mono (hI g _ (HS.of st β Z w) _ h hs.heap _ hrl) fun e w' ⟨val, v, y, he, hk, yw, yok, yv, yt⟩ => ?_
       subst he; subst yw
       have yok4 : (⟨y.β, y.Z, y.hp, y.nx + 4, y.wl, y.w⟩ : HS).ok E := yok.weaken (fun n (hn : y.nx + 4 ≤ n) => by show y.nx ≤ n; omega)
       exact OpPost.of (y := ⟨y.β, y.Z, y.hp, y.nx + 4, y.wl, y.w⟩) hs hh yok4 ⟨yt.ev, yt.ext, yt.own, yt.zown, Nat.le_trans yt.nx (Nat.le_add_right _ _), yt.wl, yt.frame⟩ yv hk
   · rw [hplan] at h
     rw [hev] at hfo
     obtain ⟨b, ln, hb, hv⟩ := hfo
     simp only [vcStep] at h
     obtain ⟨b', ln', r, hb', hloop, hsz, hround⟩ := hY n _ (HS.of st β Z w) _ h hs.heap _ hl
     have : b' = b := by
       have e : Loc.at b' ln' = Loc.at b ln := hb'.symm.trans hb
       injection e
     subst this
     have hrun : (do let d ← resolve a.eval c o.type; invoke d.target d.args : Sem Next).run P w = .ok (.round b' r.fn ((r.params.zip (c.args.toList.map a.eval).toArray).foldl (fun tmps (t, a) => tmps.setIfInBounds t a) r.tmps) r.assign r.body) w := by
       simp only [resolve, hcal, hv, Deferred.ofValue, Sem.run_bind, Sem.run_pure, Result.andThen_ok, invoke]
       have e : (#[] ++ c.args.map a.eval) = (c.args.toList.map a.eval).toArray := by apply Array.ext'; simp
       have hloop' : w.heap[b']? = some (.loop r) := hloop
       simp only [e, Instr.yield, Sem.run_bind, Instr.getLoop, getObj, Sem.run, hloop', Result.andThen_ok, hsz, ne_eq, not_true_eq_false, if_false]
       simp [Result.andThen, Sem.run]
     rw [hrun]
     refine ⟨fun hd => by simp [Fn, Fence.wide] at hd, ?_⟩
     refine RoundIn.mono hround fun e w' ⟨val, v, y, he, hk, yw, yok, yv, yt⟩ => ?_
     subst he; subst yw
     have yok4 : (⟨y.β, y.Z, y.hp, y.nx + 4, y.wl, y.w⟩ : HS).ok E := yok.weaken (fun n (hn : y.nx + 4 ≤ n) => by show y.nx ≤ n; omega)
     exact OpPost.of (y := ⟨y.β, y.Z, y.hp, y.nx + 4, y.wl, y.w⟩) hs hh yok4 ⟨yt.ev, yt.ext, yt.own, yt.zown, Nat.le_trans yt.nx (Nat.le_add_right _ _), yt.wl, yt.frame⟩ yv hk
end
end Go.Sx
namespace Go.Sx
section
variable {P : Program} {E : Env} {β0 β1 β2 β : Nat → Loc} {Z0 Z1 Z Z' : Nat → Prop} {hp : Hp} {w0 w1 w : World}
theorem RC.rebase (ag : ∀ n, β0 n ≠ .no → β2 n = β1 n) : ∀ {x : CV} {u0 u : Value}, RC β0 Z0 w0 x u0 → RC β1 Z w x u → RC β2 Z w x u := by
 have at_ : ∀ {n b ln b' ln'}, β0 n = .at b ln → β1 n = .at b' ln' → β2 n = .at b' ln' := fun {n b ln b' ln'} h0 h1 => by rw [ag n (by rw [h0]; simp), h1]
 intro x
 induction x with
 | ptr n off => rintro u0 u ⟨b, ln, h0, _⟩ ⟨b', ln', h1, h2⟩; exact ⟨b', ln', at_ h0 h1, h2⟩
 | ep n size i off => rintro u0 u ⟨b, ln, h0, _, _⟩ ⟨b', ln', h1, h2⟩; exact ⟨b', ln', at_ h0 h1, h2⟩
 | ax n off i sz len fo => rintro u0 u ⟨b, ln, h0, _, _⟩ ⟨b', ln', h1, h2⟩; exact ⟨b', ln', at_ h0 h1, h2⟩
 | mp n => rintro u0 u ⟨b, ln, h0, _⟩ ⟨b', ln', h1, h2⟩; exact ⟨b', ln', at_ h0 h1, h2⟩
 | yl n => rintro u0 u ⟨b, ln, h0, _⟩ ⟨b', ln', h1, h2⟩; exact ⟨b', ln', at_ h0 h1, h2⟩
 | os n size len =>
   intro u0 u h0 h1
   have h0' : ROs w0 (β0 n) size len u0 := h0
   have h1' : ROs w (β1 n) size len u := h1
   show ROs w (β2 n) size len u
   rw [ag n (by intro e; rw [e] at h0'; exact h0')]; exact h1'
 | fn f sh first nc cap ih1 ih2 =>
   rintro u0 u ⟨fs0, cs0, _, a1, a2, a3, a4⟩ ⟨fs, cs, e, b1, b2, b3, b4⟩
   refine ⟨fs, cs, e, b1, b2, fun i hi => ?_, fun i s hs => ?_⟩
   · obtain ⟨v0, _, r0⟩ := a3 i hi
     obtain ⟨v, hv, r⟩ := b3 i hi
     exact ⟨v, hv, ih2 i r0 r⟩
   · obtain ⟨v0, _, r0⟩ := a4 i s hs
     obtain ⟨v, hv, r⟩ := b4 i s hs
     refine ⟨v, hv, ?_⟩
     cases s with
     | none => exact ih1 i 0 r0 r
     | some n =>
       obtain ⟨xs0, _, _, q0⟩ := r0
       obtain ⟨xs, e1, e2, q⟩ := r
       exact ⟨xs, e1, e2, fun j hj => let ⟨y0, _, z0⟩ := q0 j hj; let ⟨y, hy, z⟩ := q j hj; ⟨y, hy, ih1 i j z0 z⟩⟩
 | _ => intro u0 u _ h1; exact h1
theorem RT.rebase (ag : ∀ n, β0 n ≠ .no → β2 n = β1 n) {x : TV} {u0 u : Value} (h0 : RT β0 Z0 w0 x u0) (h1 : RT β1 Z w x u) : RT β2 Z w x u := by
 cases x with
 | c x => exact RC.rebase ag h0 h1
 | a n get =>
   obtain ⟨cs0, _, _, q0⟩ := h0
   obtain ⟨cs, e1, e2, q⟩ := h1
   exact ⟨cs, e1, e2, fun j hj => let ⟨y0, _, z0⟩ := q0 j hj; let ⟨y, hy, z⟩ := q j hj; ⟨y, hy, RC.rebase ag z0 z⟩⟩
theorem RA.rebase (ag : ∀ n, β0 n ≠ .no → β2 n = β1 n) {x : AV} {u0 u : Value} (h0 : RA β0 Z0 w0 x u0) (h1 : RA β1 Z w x u) : RA β2 Z w x u := by
 cases x with
 | any => trivial
 | t x => exact RT.rebase ag h0 h1
 | tup l =>
   obtain ⟨cs0, _, _, q0⟩ := h0
   obtain ⟨cs, e1, e2, q⟩ := h1
   exact ⟨cs, e1, e2, fun j x hj => let ⟨y0, _, z0⟩ := q0 j x hj; let ⟨y, hy, z⟩ := q j x hj; ⟨y, hy, RT.rebase ag z0 z⟩⟩
theorem RB.rebase (ag : ∀ n, β0 n ≠ .no → β2 n = β1 n) {l0 l : Loc} {x : Blk} (h0 : RB β0 Z0 w0 l0 x) (h1 : RB β1 Z w l x) (hl : ∀ b ln, l = .at b ln → ∃ b0 ln0, l0 = .at b0 ln0) : RB β2 Z w l x := by
 cases l with
 | no => cases x <;> exact h1.elim
 | virt => cases x <;> first | exact h1 | exact h1.elim
 | «at» b ln =>
   obtain ⟨b0, ln0, rfl⟩ := hl b ln rfl
   cases x with
   | box n get =>
     obtain ⟨cs0, _, _, _, q0⟩ := h0
     obtain ⟨cs, e, a1, a2, q⟩ := h1
     exact ⟨cs, e, a1, a2, fun j hj => let ⟨y0, _, z0⟩ := q0 j hj; let ⟨y, hy, z⟩ := q j hj; ⟨y, hy, RC.rebase ag z0 z⟩⟩
   | row e size len get => exact h1
   | mp T m => exact h1
   | mpI T m => exact h1
   | mq T m c => exact h1
   | lp fid sz tm ps asg body busy pend =>
     obtain ⟨r0, _, _, q0, _⟩ := h0
     obtain ⟨r, a1, a2, q, a3⟩ := h1
     exact ⟨r, a1, a2, fun t => RA.rebase ag (q0 t) (q t), a3⟩
theorem findHp_mem : ∀ {l : List (Nat × Wit × Option Blk)} {n : Nat} {r : Wit × Option Blk}, findHp l n = some r → (n, r.1, r.2) ∈ l
 | [], n, r, h => by simp [findHp] at h
 | (m, w, b) :: l, n, r, h => by
   simp only [findHp] at h
   split at h
   · rename_i e
     have := Nat.eq_of_beq_eq_true e
     subst this
     simp at h; subst h; simp
   · simp [findHp_mem h]
theorem findHp_none : ∀ {l : List (Nat × Wit × Option Blk)} {n : Nat}, findHp l n = none ↔ ∀ x ∈ l, x.1 ≠ n
 | [], n => by simp [findHp]
 | (m, w, b) :: l, n => by
   simp only [findHp]
   split
   · rename_i e
     have := Nat.eq_of_beq_eq_true e
     subst this
     simp
   · rename_i e
     rw [findHp_none]
     have : m ≠ n := fun h => by subst h; rw [Nat.beq_refl] at e; simp at e
     simp [this]
theorem findSrc_some {st1 : St} : ∀ {l : List (Nat × Wit × Option Blk)} {n : Nat} {w : Wit} {b : Blk}, findHp l n = some (w, some b) → findSrc (srcs st1 l) n = srcOf st1 n w ∧ (n, srcOf st1 n w) ∈ srcs st1 l
 | [], n, w, b, h => by simp [findHp] at h
 | (m, w', b') :: l, n, w, b, h => by
   simp only [findHp] at h
   split at h
   · rename_i e
     have := Nat.eq_of_beq_eq_true e
     subst this
     simp at h
     obtain ⟨rfl, rfl⟩ := h
     simp [srcs, findSrc]
   · rename_i e
     obtain ⟨h1, h2⟩ := findSrc_some (st1 := st1) h
     cases b' with
     | none => exact ⟨h1, h2⟩
     | some b' =>
       simp only [srcs, findSrc, e]
       exact ⟨h1, List.mem_cons_of_mem _ h2⟩
theorem srcs_mem {st1 : St} : ∀ {l : List (Nat × Wit × Option Blk)} {n : Nat} {s : Src}, (n, s) ∈ srcs st1 l → ∃ w b, (n, w, some b) ∈ l ∧ s = srcOf st1 n w
 | [], n, s, h => by simp [srcs] at h
 | (m, w', none) :: l, n, s, h => by
   simp only [srcs] at h
   obtain ⟨w, b, h1, h2⟩ := srcs_mem h
   exact ⟨w, b, List.mem_cons_of_mem _ h1, h2⟩
 | (m, w', some b') :: l, n, s, h => by
   simp only [srcs, List.mem_cons, Prod.mk.injEq] at h
   rcases h with ⟨rfl, rfl⟩ | h
   · exact ⟨w', b', by simp, rfl⟩
   · obtain ⟨w, b, h1, h2⟩ := srcs_mem h
     exact ⟨w, b, List.mem_cons_of_mem _ h1, h2⟩
theorem findSrc_or : ∀ {ss : List (Nat × Src)} {n : Nat}, (findSrc ss n = .nm n ∧ ∀ x ∈ ss, x.1 ≠ n) ∨ (n, findSrc ss n) ∈ ss
 | [], n => .inl ⟨rfl, fun x h => by simp at h⟩
 | (m, s) :: l, n => by
   by_cases e : n = m
   · subst e; right; simp [findSrc]
   · simp only [findSrc, beq_ne e]
     rcases findSrc_or (ss := l) (n := n) with ⟨h1, h2⟩ | h
     · refine .inl ⟨h1, fun x hx => ?_⟩
       rcases List.mem_cons.1 hx with rfl | hx
       · exact Ne.symm e
       · exact h2 x hx
     · exact .inr (List.mem_cons_of_mem _ h)
theorem fitHps_get {ρ : Nat → Src} {st1 : St} : ∀ {l : List (Nat × Wit × Option Blk)} {n : Nat} {w : Wit} {b : Blk}, fitHps ρ st1 l → (n, w, some b) ∈ l → fitOne ρ st1 n b
 | [], _, _, _, _, h => by simp at h
 | (m, w', none) :: l, n, w, b, hf, h => by
   simp at h
   exact fitHps_get (l := l) hf h
 | (m, w', some b') :: l, n, w, b, hf, h => by
   simp only [List.mem_cons, Prod.mk.injEq, Option.some.injEq] at h
   rcases h with ⟨rfl, rfl, rfl⟩ | h
   · exact hf.1
   · exact fitHps_get (l := l) hf.2 h
theorem fitTms_get {ρ : Nat → Src} {st1 : St} : ∀ {l : List (Nat × AV)} {t : Nat} {v : AV}, fitTms ρ st1 l → findTm l t = some v → fitAV ρ (st1.tm t) v
 | [], _, _, _, h => by simp [findTm] at h
 | (d, v') :: l, t, v, hf, h => by
   simp only [findTm] at h
   split at h
   · rename_i e
     have := Nat.eq_of_beq_eq_true e
     subst this
     simp at h; subst h; exact hf.1
   · exact fitTms_get hf.2 h
theorem sameNames_ok : ∀ {d : List Nat} {l : List (Nat × Wit × Option Blk)}, sameNames d l = true → d = l.map (·.1)
 | [], [], _ => rfl
 | [], _ :: _, h => by simp [sameNames] at h
 | _ :: _, [], h => by simp [sameNames] at h
 | n :: d, x :: l, h => by
   simp only [sameNames, Bool.and_eq_true] at h
   rw [Nat.eq_of_beq_eq_true h.1, sameNames_ok h.2]; rfl
theorem fitNames_ok {nx : Nat} {st1 : St} {l : List (Nat × Wit × Option Blk)} (h : fitNames nx st1 l = true) :
   (∀ x ∈ l, x.1 < nx + 16 ∧ (nx ≤ x.1 ∨ x.2.1 = .self)) ∧
   (∀ m n, (m, Src.nm n) ∈ srcs st1 l → n = m ∨ nx ≤ n ∨ ∃ x ∈ l, x.1 = n) ∧
   (∀ m s, (m, s) ∈ srcs st1 l → s ≠ .bad) ∧
   (∀ m m' n, (m, Src.nm n) ∈ srcs st1 l → (m', Src.nm n) ∈ srcs st1 l → m = m') := by
 simp only [fitNames, Bool.and_eq_true, List.all_eq_true, Bool.or_eq_true] at h
 obtain ⟨⟨h1, h2⟩, h3⟩ := h
 refine ⟨fun x hx => ?_, fun m n hm => ?_, fun m s hm => ?_, fun m m' n hm hm' => ?_⟩
 · obtain ⟨a1, a2⟩ := h1 x hx
   refine ⟨Nat.le_of_ble_eq_true a1, a2.imp Nat.le_of_ble_eq_true (fun h => ?_)⟩
   split at h
   · rename_i e; exact e
   · simp at h
 · have := h2 _ hm
   simp only [Bool.or_eq_true, List.any_eq_true, Bool.and_eq_true] at this
   rcases this with (h | h) | ⟨x, hx, h, _⟩
   · exact .inl (Nat.eq_of_beq_eq_true h)
   · exact .inr (.inl (Nat.le_of_ble_eq_true h))
   · exact .inr (.inr ⟨x, hx, Nat.eq_of_beq_eq_true h⟩)
 · have := h2 _ hm
   intro e; subst e; simp at this
 · obtain ⟨i, hi⟩ := List.mem_iff_getElem?.1 hm
   obtain ⟨j, hj⟩ := List.mem_iff_getElem?.1 hm'
   have mi : ((m, Src.nm n), i) ∈ (srcs st1 l).zipIdx := by
     rw [List.mem_zipIdx_iff_getElem?]; exact hi
   have mj : ((m', Src.nm n), j) ∈ (srcs st1 l).zipIdx := by
     rw [List.mem_zipIdx_iff_getElem?]; exact hj
   have := h3 _ mi _ mj
   simp only [Bool.and_eq_true, Bool.not_eq_true'] at this
   rcases this with h | ⟨_, h⟩
   · have e := Nat.eq_of_beq_eq_true h
     subst e
     rw [hi] at hj; simp at hj; exact hj
   · simp at h
end
end Go.Sx
namespace Go.Sx
section
variable {P : Program} {E : Env} {β : Nat → Loc} {Z : Nat → Prop} {hp : Hp} {w : World}
theorem lenR_eq : ∀ {l : List (RW × Blk)}, lenR l = l.length
 | [] => rfl
 | _ :: l => by simp [lenR, lenR_eq (l := l)]
theorem nthN_mem : ∀ {ns : List Nat} {m n : Nat}, nthN ns m = some n → n ∈ ns
 | [], _, _, h => by cases h
 | k :: l, 0, n, h => by simp only [nthN, Option.some.injEq] at h; simp [h]
 | k :: l, m + 1, n, h => List.mem_cons_of_mem _ (nthN_mem (ns := l) h)
theorem nthN_lt : ∀ {ns : List Nat} {m n : Nat}, nthN ns m = some n → m < ns.length
 | [], _, _, h => by cases h
 | k :: l, 0, n, h => by simp
 | k :: l, m + 1, n, h => by have := nthN_lt (ns := l) h; simp; omega
theorem apart_inj : ∀ {ns : List Nat} {m m' n : Nat}, apart ns = true → nthN ns m = some n → nthN ns m' = some n → m = m'
 | [], _, _, _, _, h, _ => by cases h
 | k :: l, m, m', n, h, h1, h2 => by
   simp only [apart, Bool.and_eq_true, Bool.not_eq_true', List.any_eq_false] at h
   have no : n ∈ l → k ≠ n := fun hm e => h.1 n hm (by rw [e]; exact Nat.beq_refl n)
   match m, m', h1, h2 with
   | 0, 0, _, _ => rfl
   | 0, m' + 1, h1, h2 => simp only [nthN, Option.some.injEq] at h1; exact absurd h1 (no (nthN_mem (ns := l) h2))
   | m + 1, 0, h1, h2 => simp only [nthN, Option.some.injEq] at h2; exact absurd h2 (no (nthN_mem (ns := l) h1))
   | m + 1, m' + 1, h1, h2 => rw [apart_inj (ns := l) h.2 h1 h2]
theorem recBlks_get {ρ : Nat → Src} : ∀ {ns : List Nat} {l : List (RW × Blk)}, recBlks ρ hp ns l → ns.length = l.length ∧ ∀ m blk, canonHp l m = some blk → ∃ n b1, nthN ns m = some n ∧ hp n = some b1 ∧ fitBlk ρ b1 blk
 | [], [], _ => ⟨rfl, fun m blk h => by cases h⟩
 | n :: ns, (r, b) :: l, h => by
   obtain ⟨h1, h2⟩ := h
   obtain ⟨e, ih⟩ := recBlks_get h2
   refine ⟨by simp [e], fun m blk hm => ?_⟩
   match m, hm with
   | 0, hm =>
     simp only [canonHp, Option.some.injEq] at hm
     subst hm
     split at h1
     · rename_i b1 hb1; exact ⟨n, b1, rfl, hb1, h1⟩
     · exact h1.elim
   | m + 1, hm => exact ih m blk hm
 | [], _ :: _, h => h.elim
 | _ :: _, [], h => h.elim
theorem recTVs_ok {ρ : Nat → Src} {β1 β2 : Nat → Loc} (hρ : Named ρ β1 β2) : ∀ {l r : List TV} {vs : List Value}, recTVs ρ l r → RL β1 Z w l vs → RL β2 Z w r vs
 | [], [], [], _, _ => trivial
 | [], [], _ :: _, _, h => h.elim
 | x :: l, y :: r, v :: vs, h, h' => ⟨fitTV_ok hρ h.1 h'.1, recTVs_ok hρ h.2 h'.2⟩
 | x :: l, y :: r, [], _, h => by cases x <;> exact h.elim
 | [], _ :: _, _, h, _ => h.elim
 | _ :: _, [], _, h, _ => h.elim
theorem rec_ok {f : FuncId} {R : RSpec} (hR : ∀ g, R.ok g → SemRec P E f R g) {args : List TV} {x : HS} {K : AV → Hp → Nat → List Nat → Prop} (h : recCall R args x.hp x.nx x.wl K) (hok : x.ok E) {vs : List Value} (hr : RL x.β x.Z x.w args vs) :
   CallsIn Fence.wide 0 P f vs.toArray x.w (CallPost E x K) := by
 obtain ⟨g, hg, h⟩ := h
 split at h
 · rename_i ns hns
   obtain ⟨hap, htv, hbl, hk⟩ := h
   have hap := chk_iff.1 hap
   obtain ⟨hlen, hget⟩ := recBlks_get hbl
   let βc : Nat → Loc := fun m => match nthN ns m with | some n => x.β n | none => .no
   have hρ : Named (recSrc ns) x.β βc := by
     refine ⟨fun m n e => ?_, fun m e => ?_⟩
     · unfold recSrc at e
       show (match nthN ns m with | some n => x.β n | none => .no) = x.β n
       cases hn : nthN ns m with
       | none => rw [hn] at e; cases e
       | some k => rw [hn] at e; injection e with e; subst e; rfl
     · unfold recSrc at e
       split at e <;> cases e
   have βc_of : ∀ {m n}, nthN ns m = some n → βc m = x.β n := fun {m n} e => by show (match nthN ns m with | some n => x.β n | none => .no) = _; rw [e]
   have hsat : SatH E 0 (fun m => lenR (R.hp g) ≤ m) βc x.Z (canonHp (R.hp g)) x.w := by
     refine ⟨fun m blk hm => ?_, fun m blk b ln hm hb => ?_, fun m m' b1 b2 b l1 l2 hm hm' hb hb' => ?_, hok.zlt, fun m hm => ?_, hok.gl⟩
     · obtain ⟨n, b1, e1, e2, e3⟩ := hget m blk hm
       rw [βc_of e1]
       exact fitBlk_ok hρ e3 (hok.rb n b1 e2)
     · obtain ⟨n, b1, e1, e2, e3⟩ := hget m blk hm
       rw [βc_of e1] at hb
       exact hok.own n b1 b ln e2 hb
     · obtain ⟨n, c1, e1, e2, _⟩ := hget m b1 hm
       obtain ⟨n', c1', e1', e2', _⟩ := hget m' b2 hm'
       rw [βc_of e1] at hb
       rw [βc_of e1'] at hb'
       have := hok.inj n n' c1 c1' b l1 l2 e2 e2' hb hb'
       subst this
       exact apart_inj hap e1 e1'
     · show (match nthN ns m with | some n => x.β n | none => .no) = .no
       cases hn : nthN ns m with
       | none => rfl
       | some n => have := nthN_lt hn; have hm' : lenR (R.hp g) ≤ m := hm; rw [lenR_eq] at hm'; omega
   have ownc : ∀ b, Own βc (canonHp (R.hp g)) b → ∃ n b1 ln, n ∈ ns ∧ x.hp n = some b1 ∧ x.β n = .at b ln := fun b ⟨m, blk, ln, hm, hb⟩ => by
     obtain ⟨n, b1, e1, e2, _⟩ := hget m blk hm
     rw [βc_of e1] at hb
     exact ⟨n, b1, ln, nthN_mem e1, e2, hb⟩
   have ownx : ∀ b, Own βc (canonHp (R.hp g)) b → Own x.β x.hp b := fun b hb => let ⟨n, b1, ln, _, h2, h3⟩ := ownc b hb; ⟨n, b1, ln, h2, h3⟩
   have away : ∀ {n blk b ln}, n ∉ ns → x.hp n = some blk → x.β n = .at b ln → ¬ Own βc (canonHp (R.hp g)) b := fun {n blk b ln} h1 h2 h3 hb => by
     obtain ⟨n', b1, ln', k1, k2, k3⟩ := ownc b hb
     have := hok.inj n n' blk b1 b ln ln' h2 k2 h3 k3
     subst this
     exact h1 k1
   refine CallsIn.mono (hR g hg x.Z βc x.w vs hsat (recTVs_ok hρ htv hr)) fun e w' ⟨val, l, Z', he, hrb, hl, hv, ev, hz, hzlt, hgl⟩ => ?_
   have hno : x.β x.nx = .no := hok.fresh x.nx (Nat.le_refl _)
   have ext : Ext x.β (upd x.β x.nx l) := fun n hn => upd_ne _ _ (fun e => hn (by rw [e]; exact hno))
   have old : ∀ n blk, upd (dropAll x.hp ns) x.nx (some (.row R.e R.size (R.len g) (R.get g))) n = some blk → (n = x.nx ∧ blk = .row R.e R.size (R.len g) (R.get g)) ∨ (n ≠ x.nx ∧ n ∉ ns ∧ x.hp n = some blk) := fun n blk hn => by
     by_cases e0 : n = x.nx
     · subst e0; rw [upd_same] at hn; simp at hn; exact .inl ⟨rfl, hn.symm⟩
     · rw [upd_ne _ _ e0] at hn
       obtain ⟨k1, k2⟩ := dropAll_some hn
       exact .inr ⟨e0, k1, k2⟩
   refine ⟨val, _, ⟨upd x.β x.nx l, Z', upd (dropAll x.hp ns) x.nx (some (.row R.e R.size (R.len g) (R.get g))), x.nx + 4, ns ++ x.wl, w'⟩, he, hk, rfl, ⟨fun n blk hn => ?_, fun n blk b ln hn hb => ?_, fun n m b1 b2 b l1 l2 hn hm hb hb' => ?_, hzlt, fun n hn => ?_, hgl⟩, ?_, ⟨ev.weaken ownx, ext, fun b hb => ?_, fun b hb => ?_, Nat.le_add_right _ _, fun n hn => List.mem_append.2 (.inr hn), fun n hn hw => ?_⟩⟩
   · rcases old n blk hn with ⟨rfl, rfl⟩ | ⟨k1, k2, k3⟩
     · show RB (upd x.β x.nx l) Z' w' (upd x.β x.nx l x.nx) _
       rw [upd_same]
       cases l with
       | no => exact hrb.elim
       | virt => exact hrb
       | «at» b ln => exact hrb
     · show RB (upd x.β x.nx l) Z' w' (upd x.β x.nx l n) _
       rw [upd_ne _ _ k1]
       refine RB.mono ev hsat.calm ext (fun b ln hb => ev.same b (hok.own n blk b ln k3 hb).1 (away k2 k3 hb)) (hok.rb n blk k3)
   · rcases old n blk hn with ⟨rfl, rfl⟩ | ⟨k1, k2, k3⟩
     · have hb' : upd x.β x.nx l x.nx = .at b ln := hb
       rw [upd_same] at hb'
       obtain ⟨q1, q2, _⟩ := hl b ln hb'
       exact ⟨q1, q2, Nat.zero_le _⟩
     · have hb' : upd x.β x.nx l n = .at b ln := hb
       rw [upd_ne _ _ k1] at hb'
       obtain ⟨q1, q2, q3⟩ := hok.own n blk b ln k3 hb'
       refine ⟨Nat.lt_of_lt_of_le q1 ev.size, fun hzb => ?_, q3⟩
       rcases hz b hzb with h | h | h
       · exact q2 h
       · exact away k2 k3 hb' h
       · exact absurd q1 (Nat.not_lt.2 h)
   · have mix : ∀ {n blk b ln ln'}, n ≠ x.nx → n ∉ ns → x.hp n = some blk → upd x.β x.nx l n = .at b ln → l = .at b ln' → False := fun {n blk b ln ln'} k1 k2 k3 hb hb' => by
       rw [upd_ne _ _ k1] at hb
       rcases (hl b ln' hb').2.2 with h | h
       · exact away k2 k3 hb h
       · exact absurd (hok.own n blk b ln k3 hb).1 (Nat.not_lt.2 h)
     have hb : upd x.β x.nx l n = .at b l1 := hb
     have hb' : upd x.β x.nx l m = .at b l2 := hb'
     rcases old n b1 hn with ⟨rfl, _⟩ | ⟨k1, k2, k3⟩
     · rcases old m b2 hm with ⟨rfl, _⟩ | ⟨j1, j2, j3⟩
       · rfl
       · rw [upd_same] at hb
         exact (mix j1 j2 j3 hb' hb).elim
     · rcases old m b2 hm with ⟨rfl, _⟩ | ⟨j1, j2, j3⟩
       · rw [upd_same] at hb'
         exact (mix k1 k2 k3 hb hb').elim
       · rw [upd_ne _ _ k1] at hb
         rw [upd_ne _ _ j1] at hb'
         exact hok.inj n m b1 b2 b l1 l2 k3 j3 hb hb'
   · have hn : x.nx + 4 ≤ n := hn
     show upd x.β x.nx l n = .no
     rw [upd_ne _ _ (by omega)]
     exact hok.fresh n (by show x.nx ≤ n; omega)
   · show ROs w' (upd x.β x.nx l x.nx) _ _ val
     rw [upd_same]; exact hv
   · obtain ⟨n, blk, ln, hn, hb⟩ := hb
     rcases old n blk hn with ⟨rfl, _⟩ | ⟨k1, k2, k3⟩
     · have hb : upd x.β x.nx l x.nx = .at b ln := hb
       rw [upd_same] at hb
       rcases (hl b ln hb).2.2 with h | h
       · exact .inl (ownx b h)
       · exact .inr h
     · have hb : upd x.β x.nx l n = .at b ln := hb
       rw [upd_ne _ _ k1] at hb
       exact .inl ⟨n, blk, ln, k3, hb⟩
   · rcases hz b hb with h | h | h
     · exact .inl h
     · exact .inr (.inl (ownx b h))
     · exact .inr (.inr h)
   · simp only [List.mem_append, not_or] at hw
     show upd (dropAll x.hp ns) x.nx _ n = x.hp n
     rw [upd_ne _ _ (by omega), dropAll_get hw.1]
 · exact h.elim
end
end Go.Sx
