/- Texts for the law of the last part, part 10. -/
import Derived.Test.YtpigkgoooekcgaaTopPackedP09
import Derived.KernelRfl
import Derived.Test.YtpigkgoooekcgaaRows
import Derived.DeepKeys5
set_option linter.unusedSimpArgs false
set_option linter.unusedVariables false
namespace Go.Sx
def Env.add (E : Env) (f : FuncId) (s : Sig) : Env := { E with sig := fun g => match Nat.beq g f with | true => some s | false => E.sig g }
def Env.loops (E : Env) (l : Nat → Nat → Option Ann) (c : Nat → Nat → Option Ann := fun _ _ => none) : Env := { E with lam := l, cut := c }
def lookLam : List (Nat × Nat × Ann) → Nat → Nat → Option Ann
 | [], _, _ => none
 | (f, r, A) :: l, g, s => match Nat.beq g f && Nat.beq s r with | true => some A | false => lookLam l g s
section
variable {P : Program} {E E' : Env} {β : Nat → Loc} {Z : Nat → Prop} {hp : Hp} {w : World}
theorem SatH.gl_congr {B : Nat} {Fr : Nat → Prop} (e : E.gl = E'.gl) (h : SatH E B Fr β Z hp w) : SatH E' B Fr β Z hp w :=
 ⟨h.rb, h.own, h.inj, h.zlt, h.fresh, fun g n get hg => h.gl g n get (by rw [e]; exact hg)⟩
theorem CallQ.congr (e : E.gl = E'.gl) {f : FuncId} {args : List TV} {rs : List RV} (h : CallQ P E f args rs) : CallQ P E' f args rs := by
 intro Z w vs hs hr
 refine CallsIn.mono (h Z w vs (hs.gl_congr e.symm) hr) fun e' w' hp => ?_
 obtain ⟨val, β', Z', a1, a2, a3⟩ := hp
 exact ⟨val, β', Z', a1, a2.gl_congr e, a3⟩
theorem SemRec.congr (e : E.gl = E'.gl) {f : FuncId} {R : RSpec} {g : R.γ} (h : SemRec P E f R g) : SemRec P E' f R g := by
 intro Z β w vs hs hr
 refine CallsIn.mono (h Z β w vs (hs.gl_congr e.symm) hr) fun e' w' hp => ?_
 obtain ⟨val, l, Z', a1, a2, a3, a4, a5, a6, a7, a8⟩ := hp
 exact ⟨val, l, Z', a1, a2, a3, a4, a5, a6, a7, fun g n get hg => a8 g n get (by rw [e]; exact hg)⟩
theorem SemK.congr (e : E.gl = E'.gl) {f : FuncId} {R : KSpec} {g : R.γ} (h : SemK P E f R g) : SemK P E' f R g := by
 intro Z β w vs hs hr
 refine CallsIn.mono (h Z β w vs (hs.gl_congr e.symm) hr) fun e' w' hp => ?_
 obtain ⟨val, d, Z', βf, a1, a2, a3, a4, a5, a6, a7, a8, a9⟩ := hp
 exact ⟨val, d, Z', βf, a1, a2, a3, a4, a5.gl_congr e, a6, a7, a8, a9⟩
theorem EnvOk.add (hE : EnvOk P E) {f : FuncId} {s : Sig} (hf : ∃ fn c, P.funcs[f]? = some fn ∧ (fn.name == "runtime.NumGoroutine") = false ∧ fn.body = some c) (hq : ∀ x, s.pre x → CallQ P E f (s.arg x) (s.res x)) : EnvOk P (E.add f s) := by
 refine ⟨hE.tab, hE.fn, fun g hg => ?_, fun g t x ht hx => ?_, hE.mix, hE.maps, fun g R x hR hx => SemRec.congr (E := E) (E' := E.add f s) rfl (hE.again g R x hR hx), fun g R x hR hx => SemK.congr (E := E) (E' := E.add f s) rfl (hE.kept g R x hR hx), fun g Re x hR hx => SemK.congr (E := E) (E' := E.add f s) rfl (hE.even g Re x hR hx)⟩
 · by_cases e : g = f
   · subst e; exact hf
   · refine hE.runs g (hg.imp id (fun h => ?_))
     simp only [Env.add, beq_ne e] at h; exact h
 · by_cases e : g = f
   · subst e
     simp only [Env.add, Nat.beq_refl] at ht
     injection ht with ht; subst ht
     exact CallQ.congr (E := E) (E' := E.add g s) rfl (hq x hx)
   · simp only [Env.add, beq_ne e] at ht
     exact CallQ.congr (E := E) (E' := E.add f s) rfl (hE.sig g t x ht hx)
def lookTy : List (Nat × TI) → Nat → Option TI
 | [], _ => none
 | (t, i) :: l, n => match Nat.beq n t with | true => some i | false => lookTy l n
def okKind : TK → Bool
 | .other => false
 | _ => true
theorem lookTy_mem : ∀ {l : List (Nat × TI)} {t : Nat} {i : TI}, lookTy l t = some i → (t, i) ∈ l
 | [], _, _, h => by simp [lookTy] at h
 | (n, j) :: l, t, i, h => by
   simp only [lookTy] at h
   split at h
   · rename_i e
     have := Nat.eq_of_beq_eq_true e
     subst this
     simp at h; subst h; simp
   · exact List.mem_cons_of_mem _ (lookTy_mem h)
theorem map_eq_mem {α β : Type} {f g : α → β} : ∀ {l : List α}, l.map f = l.map g → ∀ x ∈ l, f x = g x
 | [], _, x, hx => by simp at hx
 | a :: l, h, x, hx => by
   simp only [List.map_cons, List.cons.injEq] at h
   rcases List.mem_cons.1 hx with rfl | hx
   · exact h.1
   · exact map_eq_mem h.2 x hx
theorem tab_ok {l : List (Nat × TI)} (hE : E.ty = lookTy l) (h : l.map (fun x => tabTI P x.1) = l.map (fun x => some x.2)) (hk : l.all (fun x => okKind x.2.kind) = true) : TabOk P E := fun t i ht => by
 rw [hE] at ht
 have hm := lookTy_mem ht
 refine ⟨map_eq_mem h _ hm, fun e => ?_⟩
 have := List.all_eq_true.1 hk _ hm
 simp [e, okKind] at this
theorem EnvOk.loops (hE : EnvOk P E) (l c : Nat → Nat → Option Ann) : EnvOk P (E.loops l c) :=
 ⟨hE.tab, hE.fn, hE.runs, fun g t x ht hx => CallQ.congr (E := E) (E' := E.loops l c) rfl (hE.sig g t x ht hx), hE.mix, hE.maps, fun g R x hR hx => SemRec.congr (E := E) (E' := E.loops l c) rfl (hE.again g R x hR hx), fun g R x hR hx => SemK.congr (E := E) (E' := E.loops l c) rfl (hE.kept g R x hR hx), fun g Re x hR hx => SemK.congr (E := E) (E' := E.loops l c) rfl (hE.even g Re x hR hx)⟩
theorem of_red {p q : Prop} (e : p = q) (h : q) : p := e ▸ h
def lookSig : List (Nat × Sig) → Nat → Option Sig
 | [], _ => none
 | (f, s) :: l, n => match Nat.beq n f with | true => some s | false => lookSig l n
def Env.sigs (E : Env) (l : List (Nat × Sig)) : Env := { E with sig := lookSig l }
structure SigsOk (P : Program) (E : Env) (l : List (Nat × Sig)) : Prop where
 all : ∀ f s, (f, s) ∈ l → (∃ fn c, P.funcs[f]? = some fn ∧ (fn.name == "runtime.NumGoroutine") = false ∧ fn.body = some c) ∧ ∀ x, s.pre x → CallQ P E f (s.arg x) (s.res x)
theorem lookSig_mem : ∀ {l : List (Nat × Sig)} {f : Nat} {s : Sig}, lookSig l f = some s → (f, s) ∈ l
 | [], _, _, h => by simp [lookSig] at h
 | (n, j) :: l, t, i, h => by
   simp only [lookSig] at h
   split at h
   · rename_i e
     have := Nat.eq_of_beq_eq_true e
     subst this
     simp at h; subst h; simp
   · exact List.mem_cons_of_mem _ (lookSig_mem h)
theorem SigsOk.nil : SigsOk P E [] := ⟨fun _ _ h => by cases h⟩
theorem SigsOk.cons {l : List (Nat × Sig)} (h : SigsOk P E l) {f : Nat} {s : Sig} (hf : ∃ fn c, P.funcs[f]? = some fn ∧ (fn.name == "runtime.NumGoroutine") = false ∧ fn.body = some c) (hq : ∀ x, s.pre x → CallQ P E f (s.arg x) (s.res x)) : SigsOk P E ((f, s) :: l) :=
 ⟨fun g t hm => by
   rcases List.mem_cons.1 hm with e | hm
   · cases e; exact ⟨hf, hq⟩
   · exact h.all g t hm⟩
theorem EnvOk.sigs (hE : EnvOk P E) {l : List (Nat × Sig)} (h : SigsOk P E l) (h0 : ∀ f, (E.fn f).isSome = true → ∃ fn c, P.funcs[f]? = some fn ∧ (fn.name == "runtime.NumGoroutine") = false ∧ fn.body = some c) : EnvOk P (E.sigs l) := by
 refine ⟨hE.tab, hE.fn, fun f hf => ?_, fun f s x hs hx => ?_, hE.mix, hE.maps, fun g R x hR hx => SemRec.congr (E := E) (E' := E.sigs l) rfl (hE.again g R x hR hx), fun g R x hR hx => SemK.congr (E := E) (E' := E.sigs l) rfl (hE.kept g R x hR hx), fun g Re x hR hx => SemK.congr (E := E) (E' := E.sigs l) rfl (hE.even g Re x hR hx)⟩
 · rcases hf with hf | hf
   · exact h0 f hf
   · obtain ⟨s, hs⟩ := Option.isSome_iff_exists.1 hf
     exact (h.all f s (lookSig_mem hs)).1
 · exact CallQ.congr (E := E) (E' := E.sigs l) rfl ((h.all f s (lookSig_mem hs)).2 x hx)
def Env.keeping (E : Env) : Env := { E with keep := true }
theorem EnvOk.keeping (hE : EnvOk P E) : EnvOk P E.keeping :=
 ⟨hE.tab, hE.fn, hE.runs, fun g t x ht hx => CallQ.congr (E := E) (E' := E.keeping) rfl (hE.sig g t x ht hx), hE.mix, hE.maps, fun g R x hR hx => SemRec.congr (E := E) (E' := E.keeping) rfl (hE.again g R x hR hx), fun g R x hR hx => SemK.congr (E := E) (E' := E.keeping) rfl (hE.kept g R x hR hx), fun g Re x hR hx => SemK.congr (E := E) (E' := E.keeping) rfl (hE.even g Re x hR hx)⟩
def lookFrz : List (Nat × Nat × List Nat) → Nat → Nat → List Nat
 | [], _, _ => []
 | (f, r, l) :: t, g, s => match Nat.beq g f && Nat.beq s r with | true => l | false => lookFrz t g s
def Env.frzs (E : Env) (z : List (Nat × Nat × List Nat)) : Env := { E with frz := lookFrz z }
theorem EnvOk.frzs (hE : EnvOk P E) (z : List (Nat × Nat × List Nat)) : EnvOk P (E.frzs z) :=
 ⟨hE.tab, hE.fn, hE.runs, fun g t x ht hx => CallQ.congr (E := E) (E' := E.frzs z) rfl (hE.sig g t x ht hx), hE.mix, hE.maps, fun g R x hR hx => SemRec.congr (E := E) (E' := E.frzs z) rfl (hE.again g R x hR hx), fun g R x hR hx => SemK.congr (E := E) (E' := E.frzs z) rfl (hE.kept g R x hR hx), fun g Re x hR hx => SemK.congr (E := E) (E' := E.frzs z) rfl (hE.even g Re x hR hx)⟩
def RSpec.below (R : RSpec) (mu : R.γ → Nat) (n : Nat) : RSpec := { R with ok := fun g => R.ok g ∧ mu g < n }
def Env.kep (E : Env) (f : FuncId) (R : KSpec) : Env := { E with kept := fun g => match Nat.beq g f with | true => some R | false => E.kept g }
def KSpec.below (R : KSpec) (mu : R.γ → Nat) (n : Nat) : KSpec := { R with ok := fun g => R.ok g ∧ mu g < n }
theorem EnvOk.kep (hE : EnvOk P E) {f : FuncId} {R : KSpec} (hR : ∀ g, R.ok g → SemK P E f R g) : EnvOk P (E.kep f R) := by
 refine ⟨hE.tab, hE.fn, hE.runs, fun g t x ht hx => CallQ.congr (E := E) (E' := E.kep f R) rfl (hE.sig g t x ht hx), hE.mix, hE.maps, fun g R' x hR hx => SemRec.congr (E := E) (E' := E.kep f R) rfl (hE.again g R' x hR hx), fun g R' x h1 h2 => ?_, fun g Re x hR hx => SemK.congr (E := E) (E' := E.kep f R) rfl (hE.even g Re x hR hx)⟩
 simp only [Env.kep] at h1
 split at h1
 · rename_i e
   obtain rfl := Nat.eq_of_beq_eq_true e
   injection h1 with h1
   subst h1
   exact SemK.congr (E := E) (E' := E.kep g R) rfl (hR x h2)
 · exact SemK.congr (E := E) (E' := E.kep f R) rfl (hE.kept g R' x h1 h2)
theorem SigsOk.congr (e : E.gl = E'.gl) {l : List (Nat × Sig)} (h : SigsOk P E l) : SigsOk P E' l :=
 ⟨fun f s hm => ⟨(h.all f s hm).1, fun x hx => CallQ.congr (E := E) (E' := E') e ((h.all f s hm).2 x hx)⟩⟩
theorem semK_ind (hE : EnvOk P E) {f : FuncId} (R : KSpec) (mu : R.γ → Nat) (h : ∀ n, EnvOk P (E.kep f (R.below mu n)) → ∀ g, R.ok g → mu g = n → SemK P (E.kep f (R.below mu n)) f R g) : ∀ g, R.ok g → SemK P E f R g := by
 have main : ∀ n g, mu g = n → R.ok g → SemK P E f R g := by
   intro n
   induction n using Nat.strongRecOn with
   | ind n ih =>
     intro g hg hok
     have hEn : EnvOk P (E.kep f (R.below mu n)) := hE.kep fun g' hg' => ih (mu g') hg'.2 g' rfl hg'.1
     exact SemK.congr (E := E.kep f (R.below mu n)) (E' := E) rfl (h n hEn g hok hg)
 exact fun g hg => main (mu g) g rfl hg
def lookEv : List (Nat × ESpec) → Nat → Option ESpec
 | [], _ => none
 | (f, s) :: l, n => match Nat.beq n f with | true => some s | false => lookEv l n
def Env.evens (E : Env) (l : List (Nat × ESpec)) : Env := { E with even := lookEv l }
structure EvensOk (P : Program) (E : Env) (l : List (Nat × ESpec)) : Prop where
 all : ∀ f s, (f, s) ∈ l → ∀ x, s.ok x → SemK P E f s.toK x
theorem lookEv_mem : ∀ {l : List (Nat × ESpec)} {f : Nat} {s : ESpec}, lookEv l f = some s → (f, s) ∈ l
 | [], _, _, h => by simp [lookEv] at h
 | (n, j) :: l, t, i, h => by
   simp only [lookEv] at h
   split at h
   · rename_i e
     have := Nat.eq_of_beq_eq_true e
     subst this
     simp at h; subst h; simp
   · exact List.mem_cons_of_mem _ (lookEv_mem h)
theorem EvensOk.nil : EvensOk P E [] := ⟨fun _ _ h => by cases h⟩
theorem EvensOk.cons {l : List (Nat × ESpec)} (h : EvensOk P E l) {f : Nat} {s : ESpec} (hq : ∀ x, s.ok x → SemK P E f s.toK x) : EvensOk P E ((f, s) :: l) :=
 ⟨fun g t hm => by
   rcases List.mem_cons.1 hm with e | hm
   · cases e; exact hq
   · exact h.all g t hm⟩
theorem EvensOk.congr (e : E.gl = E'.gl) {l : List (Nat × ESpec)} (h : EvensOk P E l) : EvensOk P E' l :=
 ⟨fun f s hm x hx => SemK.congr (E := E) (E' := E') e (h.all f s hm x hx)⟩
theorem EnvOk.evens (hE : EnvOk P E) {l : List (Nat × ESpec)} (h : EvensOk P E l) : EnvOk P (E.evens l) :=
 ⟨hE.tab, hE.fn, hE.runs, fun g t x ht hx => CallQ.congr (E := E) (E' := E.evens l) rfl (hE.sig g t x ht hx), hE.mix, hE.maps, fun g R x hR hx => SemRec.congr (E := E) (E' := E.evens l) rfl (hE.again g R x hR hx), fun g R x hR hx => SemK.congr (E := E) (E' := E.evens l) rfl (hE.kept g R x hR hx),
   fun g R x hR hx => SemK.congr (E := E) (E' := E.evens l) rfl (h.all g R (lookEv_mem hR) x hx)⟩
def lookWk : List (Nat × Nat × (St → List (Nat × Blk))) → Nat → Nat → St → List (Nat × Blk)
 | [], _, _, _ => []
 | (f, r, l) :: t, g, s, st => match Nat.beq g f && Nat.beq s r with | true => l st | false => lookWk t g s st
def Env.wks (E : Env) (z : List (Nat × Nat × (St → List (Nat × Blk)))) : Env := { E with wk := lookWk z }
theorem EnvOk.wks (hE : EnvOk P E) (z : List (Nat × Nat × (St → List (Nat × Blk)))) : EnvOk P (E.wks z) :=
 ⟨hE.tab, hE.fn, hE.runs, fun g t x ht hx => CallQ.congr (E := E) (E' := E.wks z) rfl (hE.sig g t x ht hx), hE.mix, hE.maps, fun g R x hR hx => SemRec.congr (E := E) (E' := E.wks z) rfl (hE.again g R x hR hx), fun g R x hR hx => SemK.congr (E := E) (E' := E.wks z) rfl (hE.kept g R x hR hx), fun g R x hR hx => SemK.congr (E := E) (E' := E.wks z) rfl (hE.even g R x hR hx)⟩
def Env.all (E : Env) (T : List (Nat × Sig)) (V : List (Nat × ESpec)) (l c : List (Nat × Nat × Ann)) (z : List (Nat × Nat × List Nat)) (k : List (Nat × Nat × (St → List (Nat × Blk)))) : Env := ((((E.sigs T).evens V).loops (lookLam l) (lookLam c)).keeping.frzs z).wks k
theorem EnvOk.all_ (hE : EnvOk P E) {T : List (Nat × Sig)} (hT : SigsOk P E T) {V : List (Nat × ESpec)} (hV : EvensOk P E V) (h0 : ∀ f, (E.fn f).isSome = true → ∃ fn c, P.funcs[f]? = some fn ∧ (fn.name == "runtime.NumGoroutine") = false ∧ fn.body = some c) (l c : List (Nat × Nat × Ann)) (z : List (Nat × Nat × List Nat)) (k : List (Nat × Nat × (St → List (Nat × Blk)))) : EnvOk P (E.all T V l c z k) :=
 (((((hE.sigs hT h0).evens (hV.congr (E := E) (E' := E.sigs T) rfl)).loops (lookLam l) (lookLam c)).keeping).frzs z).wks k
theorem bare_all (hE : EnvOk P E) (T : List (Nat × Sig)) (hT : SigsOk P E T) (V : List (Nat × ESpec)) (hV : EvensOk P E V) (h0 : ∀ f, (E.fn f).isSome = true → ∃ fn c, P.funcs[f]? = some fn ∧ (fn.name == "runtime.NumGoroutine") = false ∧ fn.body = some c) (l c : List (Nat × Nat × Ann)) (z : List (Nat × Nat × List Nat)) (k : List (Nat × Nat × (St → List (Nat × Blk)))) {fuel : Nat} {f : FuncId} {args : List TV} {rs : List RV}
   (h : inlOf (E.all T V l c z k) (vc (E.all T V l c z k) fuel) f args (fun _ => none) 0 [] (fun v hp _ _ => resFit hp v rs)) : CallQ P E f args rs :=
 CallQ.congr (E := E.all T V l c z k) (E' := E) rfl (contract (hE.all_ hT hV h0 l c z k) h)
theorem even_at (hE : EnvOk P E) (T : List (Nat × Sig)) (hT : SigsOk P E T) (V : List (Nat × ESpec)) (hV : EvensOk P E V) (h0 : ∀ f, (E.fn f).isSome = true → ∃ fn c, P.funcs[f]? = some fn ∧ (fn.name == "runtime.NumGoroutine") = false ∧ fn.body = some c) {f : FuncId} (R : ESpec) (l c : R.γ → List (Nat × Nat × Ann)) (z : List (Nat × Nat × List Nat)) (k : R.γ → List (Nat × Nat × (St → List (Nat × Blk)))) {fuel : Nat} (mu : R.γ → Nat)
   (h : ∀ n g, R.ok g → mu g = n → ∀ ms : Nat → List Int → Option Int, (∀ n T I, canonHp (R.hp g) n = some (.mpI T I) → ∀ ks x, ms n ks = some x → I ks x) →
     inlBody (E.all T ((f, { R with ok := fun g => R.ok g ∧ mu g < n }) :: V) (l g) (c g) z (k g)) (vc (E.all T ((f, { R with ok := fun g => R.ok g ∧ mu g < n }) :: V) (l g) (c g) z (k g)) fuel) f (R.arg g) (openHp ms (canonHp (R.hp g))) (lenR (R.hp g)) [] (fun v hp _ _ => evenFit R g v hp)) : ∀ g, R.ok g → SemK P E f R.toK g := by
 have main : ∀ n g, mu g = n → R.ok g → SemK P E f R.toK g := by
   intro n
   induction n using Nat.strongRecOn with
   | ind n ih =>
     intro g hg hok
     have hV' : EvensOk P E ((f, { R with ok := fun g => R.ok g ∧ mu g < n }) :: V) := hV.cons fun g' hg' => ih (mu g') hg'.2 g' rfl hg'.1
     have hEn := hE.all_ hT hV' h0 (l g) (c g) z (k g)
     exact SemK.congr (E := E.all T ((f, { R with ok := fun g => R.ok g ∧ mu g < n }) :: V) (l g) (c g) z (k g)) (E' := E) rfl (semE_of hEn (fun _ _ hI hIf hY => draw_ok hEn hI hIf hY) (h n g hok hg))
 exact fun g hg => main (mu g) g rfl hg
def lookCs : List (Nat × Nat × List (Nat × List Int)) → Nat → Nat → List (Nat × List Int)
 | [], _, _ => []
 | (f, r, l) :: t, g, s => match Nat.beq g f && Nat.beq s r with | true => l | false => lookCs t g s
def Env.css (E : Env) (z : List (Nat × Nat × List (Nat × List Int))) : Env := { E with cs := lookCs z }
theorem EnvOk.css (hE : EnvOk P E) (z : List (Nat × Nat × List (Nat × List Int))) : EnvOk P (E.css z) :=
 ⟨hE.tab, hE.fn, hE.runs, fun g t x ht hx => CallQ.congr (E := E) (E' := E.css z) rfl (hE.sig g t x ht hx), hE.mix, hE.maps, fun g R x hR hx => SemRec.congr (E := E) (E' := E.css z) rfl (hE.again g R x hR hx), fun g R x hR hx => SemK.congr (E := E) (E' := E.css z) rfl (hE.kept g R x hR hx), fun g R x hR hx => SemK.congr (E := E) (E' := E.css z) rfl (hE.even g R x hR hx)⟩
def inL : List (Nat × Nat) → Nat → Nat → Bool
 | [], _, _ => false
 | (f, r) :: l, g, s => (Nat.beq g f && Nat.beq s r) || inL l g s
def Env.tights (E : Env) (y : List (Nat × Nat)) : Env := { E with any := fun f r => !(inL y f r), every := inL y }
theorem EnvOk.tights (hE : EnvOk P E) (y : List (Nat × Nat)) : EnvOk P (E.tights y) :=
 ⟨hE.tab, hE.fn, hE.runs, fun g t x ht hx => CallQ.congr (E := E) (E' := E.tights y) rfl (hE.sig g t x ht hx), hE.mix, hE.maps, fun g R x hR hx => SemRec.congr (E := E) (E' := E.tights y) rfl (hE.again g R x hR hx), fun g R x hR hx => SemK.congr (E := E) (E' := E.tights y) rfl (hE.kept g R x hR hx), fun g R x hR hx => SemK.congr (E := E) (E' := E.tights y) rfl (hE.even g R x hR hx)⟩
def lookOld : List (Nat × Nat × (St → List (Nat × List Nat))) → Nat → Nat → St → List (Nat × List Nat)
 | [], _, _, _ => []
 | (f, r, l) :: t, g, s, st => match Nat.beq g f && Nat.beq s r with | true => l st | false => lookOld t g s st
def Env.olds (E : Env) (z : List (Nat × Nat × (St → List (Nat × List Nat)))) : Env := { E with old := lookOld z }
theorem EnvOk.olds (hE : EnvOk P E) (z : List (Nat × Nat × (St → List (Nat × List Nat)))) : EnvOk P (E.olds z) :=
 ⟨hE.tab, hE.fn, hE.runs, fun g t x ht hx => CallQ.congr (E := E) (E' := E.olds z) rfl (hE.sig g t x ht hx), hE.mix, hE.maps, fun g R x hR hx => SemRec.congr (E := E) (E' := E.olds z) rfl (hE.again g R x hR hx), fun g R x hR hx => SemK.congr (E := E) (E' := E.olds z) rfl (hE.kept g R x hR hx), fun g R x hR hx => SemK.congr (E := E) (E' := E.olds z) rfl (hE.even g R x hR hx)⟩
def lookPk : List (Nat × PSpec) → Nat → Option PSpec
 | [], _ => none
 | (f, s) :: l, n => match Nat.beq n f with | true => some s | false => lookPk l n
def Env.peeks (E : Env) (z : List (Nat × PSpec)) : Env := { E with peek := lookPk z }
theorem EnvOk.peeks (hE : EnvOk P E) (z : List (Nat × PSpec)) : EnvOk P (E.peeks z) :=
 ⟨hE.tab, hE.fn, hE.runs, fun g t x ht hx => CallQ.congr (E := E) (E' := E.peeks z) rfl (hE.sig g t x ht hx), hE.mix, hE.maps, fun g R x hR hx => SemRec.congr (E := E) (E' := E.peeks z) rfl (hE.again g R x hR hx), fun g R x hR hx => SemK.congr (E := E) (E' := E.peeks z) rfl (hE.kept g R x hR hx), fun g R x hR hx => SemK.congr (E := E) (E' := E.peeks z) rfl (hE.even g R x hR hx)⟩
def lookTw : List (Nat × Nat × (St → List (Nat × CV))) → Nat → Nat → St → List (Nat × CV)
 | [], _, _, _ => []
 | (f, r, l) :: t, g, s, st => match Nat.beq g f && Nat.beq s r with | true => l st | false => lookTw t g s st
def Env.lives (E : Env) (z : Bool) (x : Bool := false) (y : List (Nat × Nat × (St → List (Nat × CV))) := []) : Env := { E with live := z, ex := x, tmw := lookTw y }
theorem EnvOk.lives (hE : EnvOk P E) (z : Bool) (x : Bool := false) (y : List (Nat × Nat × (St → List (Nat × CV))) := []) : EnvOk P (E.lives z x y) :=
 ⟨hE.tab, hE.fn, hE.runs, fun g t k ht hk => CallQ.congr (E := E) (E' := E.lives z x y) rfl (hE.sig g t k ht hk), hE.mix, hE.maps, fun g R k hR hk => SemRec.congr (E := E) (E' := E.lives z x y) rfl (hE.again g R k hR hk), fun g R k hR hk => SemK.congr (E := E) (E' := E.lives z x y) rfl (hE.kept g R k hR hk), fun g R k hR hk => SemK.congr (E := E) (E' := E.lives z x y) rfl (hE.even g R k hR hk)⟩
structure Say where
 l : List (Nat × Nat × Ann) := []
 c : List (Nat × Nat × Ann) := []
 z : List (Nat × Nat × List Nat) := []
 k : List (Nat × Nat × (St → List (Nat × Blk))) := []
 q : List (Nat × Nat × List (Nat × List Int)) := []
 y : List (Nat × Nat) := []
 o : List (Nat × Nat × (St → List (Nat × List Nat))) := []
 p : List (Nat × PSpec) := []
 live : Bool := false
 ex : Bool := false
 w : List (Nat × Nat × (St → List (Nat × CV))) := []
def Env.say (E : Env) (T : List (Nat × Sig)) (V : List (Nat × ESpec)) (s : Say) : Env := (((((E.all T V s.l s.c s.z s.k).css s.q).tights s.y).olds s.o).peeks s.p).lives s.live s.ex s.w
theorem lives_gl (E : Env) (z x : Bool) (y : List (Nat × Nat × (St → List (Nat × CV)))) : (E.lives z x y).gl = E.gl := rfl
theorem peeks_gl (E : Env) (z : List (Nat × PSpec)) : (E.peeks z).gl = E.gl := rfl
theorem olds_gl (E : Env) (z : List (Nat × Nat × (St → List (Nat × List Nat)))) : (E.olds z).gl = E.gl := rfl
theorem tights_gl (E : Env) (z : List (Nat × Nat)) : (E.tights z).gl = E.gl := rfl
theorem css_gl (E : Env) (z : List (Nat × Nat × List (Nat × List Int))) : (E.css z).gl = E.gl := rfl
theorem all_gl (E : Env) (T : List (Nat × Sig)) (V : List (Nat × ESpec)) (l c : List (Nat × Nat × Ann)) (z : List (Nat × Nat × List Nat)) (k : List (Nat × Nat × (St → List (Nat × Blk)))) : (E.all T V l c z k).gl = E.gl := rfl
theorem say_gl {T : List (Nat × Sig)} {V : List (Nat × ESpec)} {s : Say} : (E.say T V s).gl = E.gl := by
 unfold Env.say
 rw [lives_gl, peeks_gl, olds_gl, tights_gl, css_gl, all_gl]
theorem EnvOk.say_ (hE : EnvOk P E) {T : List (Nat × Sig)} (hT : SigsOk P E T) {V : List (Nat × ESpec)} (hV : EvensOk P E V) (h0 : ∀ f, (E.fn f).isSome = true → ∃ fn c, P.funcs[f]? = some fn ∧ (fn.name == "runtime.NumGoroutine") = false ∧ fn.body = some c) (s : Say) : EnvOk P (E.say T V s) :=
 (((((hE.all_ hT hV h0 s.l s.c s.z s.k).css s.q).tights s.y).olds s.o).peeks s.p).lives s.live s.ex s.w
theorem bare_say (hE : EnvOk P E) (T : List (Nat × Sig)) (hT : SigsOk P E T) (V : List (Nat × ESpec)) (hV : EvensOk P E V) (h0 : ∀ f, (E.fn f).isSome = true → ∃ fn c, P.funcs[f]? = some fn ∧ (fn.name == "runtime.NumGoroutine") = false ∧ fn.body = some c) (s : Say) {fuel : Nat} {f : FuncId} {args : List TV} {rs : List RV}
   (h : inlOf (E.say T V s) (vc (E.say T V s) fuel) f args (fun _ => none) 0 [] (fun v hp _ _ => resFit hp v rs)) : CallQ P E f args rs :=
 CallQ.congr (E := E.say T V s) (E' := E) say_gl (contract (hE.say_ hT hV h0 s) h)
end
end Go.Sx
namespace Go.Proofs.Ytpigkgoooekcgaa
open Go Go.Sx
set_option maxRecDepth 100000
def tyTab : List (Nat × TI) := [
 (1, ⟨.func, 1, 8, [.nilf]⟩),
 (2, ⟨(.int .i64), 1, 8, [.int .i64 0]⟩),
 (3, ⟨(.int .i64), 1, 8, [.int .i64 0]⟩),
 (4, ⟨.bool, 1, 1, [.ff]⟩),
 (5, ⟨(.int .u8), 1, 1, [.int .u8 0]⟩),
 (6, ⟨(.int .u8), 1, 1, [.int .u8 0]⟩),
 (7, ⟨(.struct [(0, 2), (1, 3), (2, 4), (3, 6)]), 4, 24, [.int .i64 0, .int .i64 0, .ff, .int .u8 0]⟩),
 (8, ⟨(.struct [(0, 2), (1, 3), (2, 4), (3, 6)]), 4, 24, [.int .i64 0, .int .i64 0, .ff, .int .u8 0]⟩),
 (9, ⟨.str, 1, 16, [.str ⟨#[]⟩]⟩),
 (10, ⟨.str, 1, 16, [.str ⟨#[]⟩]⟩),
 (11, ⟨.str, 1, 16, [.str ⟨#[]⟩]⟩),
 (12, ⟨(.int .u64), 1, 8, [.int .u64 0]⟩),
 (15, ⟨.ptr, 1, 8, [.nilp]⟩),
 (16, ⟨.ptr, 1, 8, [.nilp]⟩),
 (17, ⟨.ptr, 1, 8, [.nilp]⟩),
 (21, ⟨(.int .i32), 1, 4, [.int .i32 0]⟩),
 (22, ⟨(.slice 37), 1, 24, [.nils]⟩),
 (23, ⟨(.struct [(0, 3), (1, 3)]), 2, 16, [.int .i64 0, .int .i64 0]⟩),
 (24, ⟨(.struct [(0, 3), (1, 3)]), 2, 16, [.int .i64 0, .int .i64 0]⟩),
 (25, ⟨(.struct [(0, 3), (1, 24), (3, 3), (4, 24)]), 6, 48, [.int .i64 0, .int .i64 0, .int .i64 0, .int .i64 0, .int .i64 0, .int .i64 0]⟩),
 (26, ⟨(.struct [(0, 3), (1, 24), (3, 3), (4, 24)]), 6, 48, [.int .i64 0, .int .i64 0, .int .i64 0, .int .i64 0, .int .i64 0, .int .i64 0]⟩),
 (27, ⟨(.slice 3), 1, 24, [.nils]⟩),
 (28, ⟨(.int .i64), 1, 8, [.int .i64 0]⟩),
 (30, ⟨.func, 1, 8, [.nilf]⟩),
 (31, ⟨.func, 1, 8, [.nilf]⟩),
 (33, ⟨.func, 1, 8, [.nilf]⟩),
 (34, ⟨.func, 1, 8, [.nilf]⟩),
 (35, ⟨.func, 1, 8, [.nilf]⟩),
 (36, ⟨(.struct [(0, 3), (1, 3)]), 2, 16, [.int .i64 0, .int .i64 0]⟩),
 (37, ⟨(.struct [(0, 3), (1, 3)]), 2, 16, [.int .i64 0, .int .i64 0]⟩),
 (38, ⟨(.slice 41), 1, 24, [.nils]⟩),
 (39, ⟨.func, 1, 8, [.nilf]⟩),
 (40, ⟨(.array 4 3), 4, 32, [.int .i64 0, .int .i64 0, .int .i64 0, .int .i64 0]⟩),
 (41, ⟨(.array 4 3), 4, 32, [.int .i64 0, .int .i64 0, .int .i64 0, .int .i64 0]⟩),
 (42, ⟨.func, 1, 8, [.nilf]⟩),
 (43, ⟨(.array 4 37), 8, 64, List.replicate 8 (.int .i64 0)⟩),
 (44, ⟨(.array 4 37), 8, 64, List.replicate 8 (.int .i64 0)⟩),
 (45, ⟨(.slice 44), 1, 24, [.nils]⟩),
 (47, ⟨.func, 1, 8, [.nilf]⟩),
 (48, ⟨.func, 1, 8, [.nilf]⟩),
 (49, ⟨(.struct [(0, 3), (1, 3)]), 2, 16, [.int .i64 0, .int .i64 0]⟩),
 (50, ⟨(.struct [(0, 3), (1, 3)]), 2, 16, [.int .i64 0, .int .i64 0]⟩),
 (52, ⟨.func, 1, 8, [.nilf]⟩),
 (53, ⟨.func, 1, 8, [.nilf]⟩),
 (54, ⟨(.slice 59), 1, 24, [.nils]⟩),
 (55, ⟨.func, 1, 8, [.nilf]⟩),
 (56, ⟨(.slice 27), 1, 24, [.nils]⟩),
 (57, ⟨.func, 1, 8, [.nilf]⟩),
 (58, ⟨(.struct [(0, 3), (1, 3), (2, 3), (3, 37)]), 5, 40, [.int .i64 0, .int .i64 0, .int .i64 0, .int .i64 0, .int .i64 0]⟩),
 (59, ⟨(.struct [(0, 3), (1, 3), (2, 3), (3, 37)]), 5, 40, [.int .i64 0, .int .i64 0, .int .i64 0, .int .i64 0, .int .i64 0]⟩),
 (60, ⟨.func, 1, 8, [.nilf]⟩),
 (62, ⟨.func, 1, 8, [.nilf]⟩),
 (63, ⟨.func, 1, 8, [.nilf]⟩),
 (64, ⟨(.struct [(0, 3), (1, 27)]), 2, 32, [.int .i64 0, .nils]⟩),
 (65, ⟨(.struct [(0, 3), (1, 27)]), 2, 32, [.int .i64 0, .nils]⟩),
 (66, ⟨(.slice 69), 1, 24, [.nils]⟩),
 (67, ⟨.func, 1, 8, [.nilf]⟩),
 (68, ⟨(.struct [(0, 9), (1, 3)]), 2, 24, [.str ⟨#[]⟩, .int .i64 0]⟩),
 (69, ⟨(.struct [(0, 9), (1, 3)]), 2, 24, [.str ⟨#[]⟩, .int .i64 0]⟩),
 (70, ⟨.func, 1, 8, [.nilf]⟩),
 (71, ⟨.func, 1, 8, [.nilf]⟩),
 (72, ⟨.func, 1, 8, [.nilf]⟩),
 (73, ⟨.func, 1, 8, [.nilf]⟩),
 (74, ⟨.func, 1, 8, [.nilf]⟩),
 (75, ⟨.func, 1, 8, [.nilf]⟩),
 (77, ⟨.func, 1, 8, [.nilf]⟩),
 (78, ⟨.func, 1, 8, [.nilf]⟩),
 (79, ⟨.func, 1, 8, [.nilf]⟩),
 (80, ⟨.func, 1, 8, [.nilf]⟩),
 (81, ⟨(.array 4 37), 8, 64, List.replicate 8 (.int .i64 0)⟩),
 (82, ⟨(.map 163 3), 1, 8, [.nilm]⟩),
 (83, ⟨(.map 163 3), 1, 8, [.nilm]⟩),
 (84, ⟨(.struct [(0, 3), (1, 83)]), 2, 16, [.int .i64 0, .nilm]⟩),
 (85, ⟨(.struct [(0, 3), (1, 83)]), 2, 16, [.int .i64 0, .nilm]⟩),
 (87, ⟨.func, 1, 8, [.nilf]⟩),
 (88, ⟨.func, 1, 8, [.nilf]⟩),
 (89, ⟨.func, 1, 8, [.nilf]⟩),
 (90, ⟨.func, 1, 8, [.nilf]⟩),
 (91, ⟨.func, 1, 8, [.nilf]⟩),
 (92, ⟨.func, 1, 8, [.nilf]⟩),
 (93, ⟨(.map 97 4), 1, 8, [.nilm]⟩),
 (94, ⟨.func, 1, 8, [.nilf]⟩),
 (95, ⟨(.array 4 3), 4, 32, [.int .i64 0, .int .i64 0, .int .i64 0, .int .i64 0]⟩),
 (96, ⟨(.struct [(0, 3), (1, 95)]), 5, 40, [.int .i64 0, .int .i64 0, .int .i64 0, .int .i64 0, .int .i64 0]⟩),
 (97, ⟨(.struct [(0, 3), (1, 95)]), 5, 40, [.int .i64 0, .int .i64 0, .int .i64 0, .int .i64 0, .int .i64 0]⟩),
 (99, ⟨.func, 1, 8, [.nilf]⟩),
 (100, ⟨(.struct [(0, 34)]), 1, 8, [.nilf]⟩),
 (101, ⟨(.struct [(0, 34)]), 1, 8, [.nilf]⟩),
 (102, ⟨.func, 1, 8, [.nilf]⟩),
 (104, ⟨.func, 1, 8, [.nilf]⟩),
 (105, ⟨.func, 1, 8, [.nilf]⟩),
 (106, ⟨(.struct [(0, 65)]), 2, 32, [.int .i64 0, .nils]⟩),
 (107, ⟨(.struct [(0, 65)]), 2, 32, [.int .i64 0, .nils]⟩),
 (108, ⟨.func, 1, 8, [.nilf]⟩),
 (109, ⟨.func, 1, 8, [.nilf]⟩),
 (110, ⟨.func, 1, 8, [.nilf]⟩),
 (111, ⟨.func, 1, 8, [.nilf]⟩),
 (112, ⟨.func, 1, 8, [.nilf]⟩),
 (113, ⟨.func, 1, 8, [.nilf]⟩),
 (114, ⟨(.struct [(0, 27), (1, 27), (2, 27), (3, 3), (4, 3)]), 5, 88, [.nils, .nils, .nils, .int .i64 0, .int .i64 0]⟩),
 (115, ⟨(.struct [(0, 27), (1, 27), (2, 27), (3, 3), (4, 3)]), 5, 88, [.nils, .nils, .nils, .int .i64 0, .int .i64 0]⟩),
 (116, ⟨.func, 1, 8, [.nilf]⟩),
 (117, ⟨.func, 1, 8, [.nilf]⟩),
 (118, ⟨.func, 1, 8, [.nilf]⟩),
 (119, ⟨(.struct [(0, 24)]), 2, 16, [.int .i64 0, .int .i64 0]⟩),
 (120, ⟨(.struct [(0, 24)]), 2, 16, [.int .i64 0, .int .i64 0]⟩),
 (121, ⟨.func, 1, 8, [.nilf]⟩),
 (122, ⟨.func, 1, 8, [.nilf]⟩),
 (123, ⟨.func, 1, 8, [.nilf]⟩),
 (124, ⟨.func, 1, 8, [.nilf]⟩),
 (125, ⟨(.struct [(0, 59)]), 5, 40, [.int .i64 0, .int .i64 0, .int .i64 0, .int .i64 0, .int .i64 0]⟩),
 (126, ⟨(.struct [(0, 59)]), 5, 40, [.int .i64 0, .int .i64 0, .int .i64 0, .int .i64 0, .int .i64 0]⟩),
 (127, ⟨.func, 1, 8, [.nilf]⟩),
 (128, ⟨.func, 1, 8, [.nilf]⟩),
 (129, ⟨.func, 1, 8, [.nilf]⟩),
 (130, ⟨.func, 1, 8, [.nilf]⟩),
 (131, ⟨.func, 1, 8, [.nilf]⟩),
 (132, ⟨.func, 1, 8, [.nilf]⟩),
 (133, ⟨(.slice 135), 1, 24, [.nils]⟩),
 (134, ⟨(.struct [(0, 69), (2, 3), (3, 3), (4, 3)]), 5, 48, [.str ⟨#[]⟩, .int .i64 0, .int .i64 0, .int .i64 0, .int .i64 0]⟩),
 (135, ⟨(.struct [(0, 69), (2, 3), (3, 3), (4, 3)]), 5, 48, [.str ⟨#[]⟩, .int .i64 0, .int .i64 0, .int .i64 0, .int .i64 0]⟩),
 (136, ⟨.func, 1, 8, [.nilf]⟩),
 (137, ⟨.func, 1, 8, [.nilf]⟩),
 (138, ⟨(.struct [(0, 115)]), 5, 88, [.nils, .nils, .nils, .int .i64 0, .int .i64 0]⟩),
 (139, ⟨(.struct [(0, 115)]), 5, 88, [.nils, .nils, .nils, .int .i64 0, .int .i64 0]⟩),
 (140, ⟨.func, 1, 8, [.nilf]⟩),
 (141, ⟨.func, 1, 8, [.nilf]⟩),
 (142, ⟨(.array 6 3), 6, 48, [.int .i64 0, .int .i64 0, .int .i64 0, .int .i64 0, .int .i64 0, .int .i64 0]⟩),
 (143, ⟨(.array 6 3), 6, 48, [.int .i64 0, .int .i64 0, .int .i64 0, .int .i64 0, .int .i64 0, .int .i64 0]⟩),
 (144, ⟨.func, 1, 8, [.nilf]⟩),
 (146, ⟨.func, 1, 8, [.nilf]⟩),
 (147, ⟨.func, 1, 8, [.nilf]⟩),
 (148, ⟨.func, 1, 8, [.nilf]⟩),
 (149, ⟨.func, 1, 8, [.nilf]⟩),
 (150, ⟨(.slice 5), 1, 24, [.nils]⟩),
 (151, ⟨.func, 1, 8, [.nilf]⟩),
 (152, ⟨.func, 1, 8, [.nilf]⟩),
 (153, ⟨.func, 1, 8, [.nilf]⟩),
 (154, ⟨.func, 1, 8, [.nilf]⟩),
 (155, ⟨(.struct [(0, 154)]), 1, 8, [.nilf]⟩),
 (156, ⟨(.struct [(0, 154)]), 1, 8, [.nilf]⟩),
 (157, ⟨.func, 1, 8, [.nilf]⟩),
 (158, ⟨.func, 1, 8, [.nilf]⟩),
 (159, ⟨.func, 1, 8, [.nilf]⟩),
 (160, ⟨(.int .u64), 1, 8, [.int .u64 0]⟩),
 (161, ⟨.func, 1, 8, [.nilf]⟩),
 (162, ⟨(.struct [(0, 3), (1, 3)]), 2, 16, [.int .i64 0, .int .i64 0]⟩),
 (163, ⟨(.struct [(0, 3), (1, 3)]), 2, 16, [.int .i64 0, .int .i64 0]⟩),
 (165, ⟨.func, 1, 8, [.nilf]⟩),
 (166, ⟨(.int .i64), 1, 8, [.int .i64 0]⟩),
 (168, ⟨.func, 1, 8, [.nilf]⟩),
 (169, ⟨.func, 1, 8, [.nilf]⟩),
 (170, ⟨.func, 1, 8, [.nilf]⟩),
 (171, ⟨.func, 1, 8, [.nilf]⟩)]
def lookFn : List (Nat × Func) → Nat → Option Func
 | [], _ => none
 | (t, i) :: l, n => match Nat.beq n t with | true => some i | false => lookFn l n
noncomputable def fnTab : List (Nat × Func) := [(3, Try.f3), (4, Try.f4), (5, Try.f5), (6, Try.f6), (7, Try.f7), (8, Try.f8), (9, Try.f9), (10, Try.f10), (11, Try.f11), (12, Try.f12), (13, Try.f13), (14, Try.f14), (15, Try.f15), (16, Try.f16), (17, Try.f17), (18, Try.f18), (19, Try.f19), (20, Try.f20), (21, Try.f21), (22, Try.f22), (23, Try.f23), (24, Try.f24), (25, Try.f25), (26, Try.f26), (27, Try.f27), (28, Try.f28), (29, Try.f29), (30, Try.f30), (31, Try.f31), (32, Try.f32), (33, Try.f33), (34, Try.f34), (35, Try.f35), (36, Try.f36), (37, Try.f37), (38, Try.f38), (39, Try.f39), (40, Try.f40), (41, Try.f41), (42, Try.f42), (43, Try.f43), (44, Try.f44), (45, Try.f45), (46, Try.f46), (47, Try.f47), (48, Try.f48), (49, Try.f49), (50, Try.f50), (51, Try.f51), (52, Try.f52), (53, Try.f53), (54, Try.f54), (55, Try.f55), (56, Try.f56), (57, Try.f57), (58, Try.f58), (59, Try.f59), (60, Try.f60), (61, Try.f61), (62, Try.f62), (63, Try.f63), (64, Try.f64), (65, Try.f65), (66, Try.f66), (67, Try.f67), (68, Try.f68), (69, Try.f69), (70, Try.f70), (71, Try.f71), (72, Try.f72), (73, Try.f73), (74, Try.f74), (75, Try.f75), (76, Try.f76), (77, Try.f77), (78, Try.f78), (79, Try.f79), (80, Try.f80), (81, Try.f81), (82, Try.f82), (83, Try.f83), (84, Try.f84), (85, Try.f85), (86, Try.f86), (87, Try.f87), (88, Try.f88), (89, Try.f89), (90, Try.f90), (94, Try.f94)]
def MC : MapT := ⟨163, 3, true, 2, false⟩
def MK : MapT := ⟨97, 4, true, 5, true⟩
def mps0 : Nat → Option MapT
 | 82 => some MC
 | 83 => some MC
 | 93 => some MK
 | _ => none
noncomputable def E0 : Env := { ty := lookTy tyTab, gl := fun _ => none, sig := fun _ => none, fn := lookFn fnTab, lam := fun _ _ => none, mps := mps0, any := fun _ _ => false }
theorem m82_und : Try.prog.underlying 82 = some (.map 163 3) := by kernel_rfl
theorem m83_und : Try.prog.underlying 83 = some (.map 163 3) := by kernel_rfl
def fldsOf : Option TypeDesc → Option (List (Nat × Nat × Bool))
 | some (.struct fs) => some (fs.toList.map (fun f => (f.type, f.offset, f.name != "_")))
 | _ => none
theorem m163_flds : fldsOf (Try.prog.underlying 163) = some [(3, 0, true), (3, 1, true)] := by kernel_rfl
theorem m163_und : ∃ fs, Try.prog.underlying 163 = some (.struct fs) ∧ fs.toList.map (fun f => (f.type, f.offset, f.name != "_")) = [(3, 0, true), (3, 1, true)] := by
 have h := m163_flds
 unfold fldsOf at h
 split at h
 · rename_i fs hu
   exact ⟨fs, hu, by injection h⟩
 · cases h
theorem m163_key : Try.prog.keyType 163 = true := by kernel_rfl
theorem m163_size : Try.prog.cellsOf 163 = 2 := by kernel_rfl
theorem m3_size : Try.prog.cellsOf 3 = 1 := by kernel_rfl
theorem m3_und : Try.prog.underlying 3 = some (.int .i64) := by kernel_rfl
theorem m_small : Try.prog.types.size + 2 ≤ 10000 := Nat.le_of_ble_eq_true (by kernel_rfl)
theorem m_row : 163 < Try.prog.types.size := Nat.le_of_ble_eq_true (by kernel_rfl)
theorem m_laid : laidOutB Try.prog = true := by kernel_rfl
theorem m3_lit (d : Nat) {a : Int} (h : inRange .i64 a) : Try.prog.keyLits (d + 1) 3 [.int .i64 a] = some [.int .i64 a] := by
 have : (Lit.int .i64 a).wf = true := by
   obtain ⟨h1, h2⟩ := h
   simp only [Lit.wf, Bool.and_eq_true, decide_eq_true_eq]
   exact ⟨h1, h2⟩
 simp [Program.keyLits, m3_und, this]
theorem mc_lit (ks : List Int) (h : KeyIs MC ks) : ∃ l, keyOf Try.prog 163 (keyV true ks) = some l := by
 obtain ⟨fs, h1, h2⟩ := m163_und
 obtain ⟨hl, hr⟩ := h
 match ks, hl with
 | [a, b], _ =>
   have ha := hr a (by simp)
   have hb := hr b (by simp)
   obtain ⟨n, hn⟩ : ∃ n, Try.prog.types.size + 1 = n + 2 := ⟨Try.prog.types.size - 1, by have := m_row; omega⟩
   have hf : (Value.agg #[Value.int .i64 a, Value.int .i64 b]).formed Try.prog 163 = true := by simp [Value.formed, h1, m163_size]
   obtain ⟨f0, f1, hfs⟩ : ∃ f0 f1, fs.toList = [f0, f1] := by
     have hl : fs.toList.length = 2 := by
       have := congrArg List.length h2
       rwa [List.length_map] at this
     generalize fs.toList = l at hl
     match l, hl with
     | [f0, f1], _ => exact ⟨f0, f1, rfl⟩
   rw [hfs] at h2
   simp only [List.map_cons, List.map_nil, List.cons.injEq, Prod.mk.injEq, and_true] at h2
   obtain ⟨⟨t0, o0, n0⟩, ⟨t1, o1, n1⟩⟩ := h2
   obtain rfl : fs = #[f0, f1] := by cases fs; simp at hfs; subst hfs; rfl
   have hk : Try.prog.keyLits (n + 2) 163 [.int .i64 a, .int .i64 b] = some [.int .i64 a, .int .i64 b] := by
     unfold Program.keyLits
     simp only [h1]
     simp [m163_size, n0, n1, t0, t1, o0, o1, m3_size, m3_lit n ha, m3_lit n hb]
   refine ⟨.string (keyBytes [.int .i64 a, .int .i64 b]), ?_⟩
   unfold keyOf
   simp only [h1]
   rw [show keyV true [a, b] = Value.agg #[Value.int .i64 a, Value.int .i64 b] from rfl, m163_key, hf, hn]
   simp only [Bool.and_self, if_true, Value.cells]
   rw [hk]
   rfl
theorem m82 : MapFacts Try.prog 82 MC :=
 ⟨m82_und, Go.Maps.Keyed.of_law (deep_law_gate m_laid m_small m_row m163_key (by kernel_rfl)), mc_lit, fun w => rfl, fun h => by cases h⟩
theorem m83 : MapFacts Try.prog 83 MC :=
 ⟨m83_und, Go.Maps.Keyed.of_law (deep_law_gate m_laid m_small m_row m163_key (by kernel_rfl)), mc_lit, fun w => rfl, fun h => by cases h⟩
theorem m93_und : Try.prog.underlying 93 = some (.map 97 4) := by kernel_rfl
theorem m97_flds : fldsOf (Try.prog.underlying 97) = some [(3, 0, true), (95, 1, true)] := by kernel_rfl
theorem m97_und : ∃ fs, Try.prog.underlying 97 = some (.struct fs) ∧ fs.toList.map (fun f => (f.type, f.offset, f.name != "_")) = [(3, 0, true), (95, 1, true)] := by
 have h := m97_flds
 unfold fldsOf at h
 split at h
 · rename_i fs hu
   exact ⟨fs, hu, by injection h⟩
 · cases h
theorem m97_key : Try.prog.keyType 97 = true := by kernel_rfl
theorem m97_size : Try.prog.cellsOf 97 = 5 := by kernel_rfl
theorem m95_size : Try.prog.cellsOf 95 = 4 := by kernel_rfl
theorem m95_und : Try.prog.underlying 95 = some (.array 4 3) := by kernel_rfl
theorem m97_row : 97 < Try.prog.types.size := Nat.le_of_ble_eq_true (by kernel_rfl)
theorem m95_lit (d : Nat) {a b c e : Int} (ha : inRange .i64 a) (hb : inRange .i64 b) (hc : inRange .i64 c) (he : inRange .i64 e) : Try.prog.keyLits (d + 2) 95 [.int .i64 a, .int .i64 b, .int .i64 c, .int .i64 e] = some [.int .i64 a, .int .i64 b, .int .i64 c, .int .i64 e] := by
 unfold Program.keyLits
 simp only [m95_und]
 rw [if_pos (by rw [m95_size]; rfl), m3_size, show List.range 4 = [0, 1, 2, 3] from rfl]
 simp [m3_lit d ha, m3_lit d hb, m3_lit d hc, m3_lit d he]
theorem mk_lit (ks : List Int) (h : KeyIs MK ks) : ∃ l, keyOf Try.prog 97 (keyV true ks) = some l := by
 obtain ⟨fs, h1, h2⟩ := m97_und
 obtain ⟨hl, hr⟩ := h
 match ks, hl with
 | [x, a, b, c, e], _ =>
   have hx := hr x (by simp)
   have ha := hr a (by simp)
   have hb := hr b (by simp)
   have hc := hr c (by simp)
   have he := hr e (by simp)
   obtain ⟨n, hn⟩ : ∃ n, Try.prog.types.size + 1 = n + 3 := ⟨Try.prog.types.size - 2, by have := m97_row; omega⟩
   have hf : (Value.agg #[Value.int .i64 x, Value.int .i64 a, Value.int .i64 b, Value.int .i64 c, Value.int .i64 e]).formed Try.prog 97 = true := by simp [Value.formed, h1, m97_size]
   obtain ⟨f0, f1, hfs⟩ : ∃ f0 f1, fs.toList = [f0, f1] := by
     have hl : fs.toList.length = 2 := by
       have := congrArg List.length h2
       rwa [List.length_map] at this
     generalize fs.toList = l at hl
     match l, hl with
     | [f0, f1], _ => exact ⟨f0, f1, rfl⟩
   rw [hfs] at h2
   simp only [List.map_cons, List.map_nil, List.cons.injEq, Prod.mk.injEq, and_true] at h2
   obtain ⟨⟨t0, o0, n0⟩, ⟨t1, o1, n1⟩⟩ := h2
   obtain rfl : fs = #[f0, f1] := by cases fs; simp at hfs; subst hfs; rfl
   have hk : Try.prog.keyLits (n + 3) 97 [.int .i64 x, .int .i64 a, .int .i64 b, .int .i64 c, .int .i64 e] = some [.int .i64 x, .int .i64 a, .int .i64 b, .int .i64 c, .int .i64 e] := by
     have l1 := m3_lit (n + 1) hx
     have l2 := m95_lit n ha hb hc he
     unfold Program.keyLits
     simp only [h1]
     simp [m97_size, n0, n1, t0, t1, o0, o1, m3_size, m95_size, l1, l2]
   refine ⟨.string (keyBytes [.int .i64 x, .int .i64 a, .int .i64 b, .int .i64 c, .int .i64 e]), ?_⟩
   unfold keyOf
   simp only [h1]
   rw [show keyV true [x, a, b, c, e] = Value.agg #[Value.int .i64 x, Value.int .i64 a, Value.int .i64 b, Value.int .i64 c, Value.int .i64 e] from rfl, m97_key, hf, hn]
   simp only [Bool.and_self, if_true, Value.cells]
   rw [hk]
   rfl
theorem m93 : MapFacts Try.prog 93 MK :=
 ⟨m93_und, Go.Maps.Keyed.of_law (deep_law_gate m_laid m_small m97_row m97_key (by kernel_rfl)), mk_lit, fun w => rfl, fun h => by cases h⟩
theorem maps_ok : MapsOk Try.prog E0 := fun t T h => by
 have h' : mps0 t = some T := h
 unfold mps0 at h'
 split at h'
 · injection h' with h'; subst h'; exact m82
 · injection h' with h'; subst h'; exact m83
 · injection h' with h'; subst h'; exact m93
 · cases h'
theorem lookFn_mem : ∀ {l : List (Nat × Func)} {t : Nat} {i : Func}, lookFn l t = some i → (t, i) ∈ l
 | [], _, _, h => by simp [lookFn] at h
 | (n, j) :: l, t, i, h => by
   simp only [lookFn] at h
   split at h
   · rename_i e
     have := Nat.eq_of_beq_eq_true e
     subst this
     simp at h; subst h; simp
   · exact List.mem_cons_of_mem _ (lookFn_mem h)
theorem fnOk : fnTab.map (fun x => Try.prog.funcs[x.1]?) = fnTab.map (fun x => some x.2) := by kernel_rfl
theorem fnRuns : fnTab.all (fun x => !(x.2.name == "runtime.NumGoroutine") && x.2.body.isSome) = true := by kernel_rfl
theorem tyOk : tyTab.map (fun x => tabTI Try.prog x.1) = tyTab.map (fun x => some x.2) := by kernel_rfl
theorem fn_of {f : Nat} {fn : Func} (h : lookFn fnTab f = some fn) : ∃ c, Try.prog.funcs[f]? = some fn ∧ (fn.name == "runtime.NumGoroutine") = false ∧ fn.body = some c := by
 have hm := lookFn_mem h
 have h1 := map_eq_mem fnOk _ hm
 have h2 := List.all_eq_true.1 fnRuns _ hm
 simp only [Bool.and_eq_true, Bool.not_eq_true'] at h2
 obtain ⟨c, hc⟩ := Option.isSome_iff_exists.1 h2.2
 exact ⟨c, h1, h2.1, hc⟩
theorem fn_runs {f : Nat} (h : (lookFn fnTab f).isSome = true) : ∃ fn c, Try.prog.funcs[f]? = some fn ∧ (fn.name == "runtime.NumGoroutine") = false ∧ fn.body = some c := by
 obtain ⟨fn, hf⟩ := Option.isSome_iff_exists.1 h
 obtain ⟨c, h1⟩ := fn_of hf
 exact ⟨fn, c, h1⟩
theorem E0_ok : EnvOk Try.prog E0 :=
 ⟨tab_ok rfl tyOk (by kernel_rfl), fun f fn h => let ⟨_, h1, _⟩ := fn_of h; h1, fun f h => fn_runs (h.elim id (fun h => by simp [E0] at h)), fun f s x h => by simp [E0] at h, by kernel_rfl, maps_ok, fun _ _ _ h => (by cases h), fun _ _ _ h => (by cases h), fun _ _ _ h => by cases h⟩
end Go.Proofs.Ytpigkgoooekcgaa
namespace Bm
def ch : Nat → Nat → Nat
 | _, 0 => 1
 | 0, _ + 1 => 0
 | n + 1, k + 1 => ch n k + ch n (k + 1)
def sN : Nat → (Nat → Nat) → Nat
 | 0, _ => 0
 | n + 1, f => sN n f + f n
theorem ch_zero (n : Nat) : ch n 0 = 1 := by cases n <;> rfl
theorem ch_ss (n k : Nat) : ch (n + 1) (k + 1) = ch n k + ch n (k + 1) := rfl
theorem ch_lt : ∀ {n k : Nat}, n < k → ch n k = 0
 | 0, _ + 1, _ => rfl
 | n + 1, k + 1, h => by rw [ch_ss, ch_lt (by omega : n < k), ch_lt (by omega : n < k + 1)]
 | _, 0, h => absurd h (Nat.not_lt_zero _)
theorem ch_self : ∀ n, ch n n = 1
 | 0 => rfl
 | n + 1 => by rw [ch_ss, ch_self n, ch_lt (Nat.lt_succ_self n)]
theorem ch_pos : ∀ {n k : Nat}, k ≤ n → 0 < ch n k
 | _, 0, _ => by rw [ch_zero]; omega
 | n + 1, k + 1, h => by rw [ch_ss]; have := ch_pos (n := n) (k := k) (by omega); omega
 | 0, k + 1, h => absurd h (Nat.not_succ_le_zero _)
theorem ch_le_pow : ∀ n k, ch n k ≤ 2 ^ n
 | 0, 0 => by decide
 | 0, _ + 1 => Nat.zero_le _
 | n + 1, 0 => by rw [ch_zero]; exact Nat.one_le_two_pow
 | n + 1, k + 1 => by
   rw [ch_ss, Nat.pow_succ]
   have h1 := ch_le_pow n k
   have h2 := ch_le_pow n (k + 1)
   omega
theorem ch_le {n k : Nat} (h : n ≤ 40) : ch n k ≤ 1099511627776 :=
 Nat.le_trans (ch_le_pow n k) (Nat.le_trans (Nat.pow_le_pow_right (by omega) h) (by decide))
theorem sN_congr {n : Nat} {f g : Nat → Nat} (h : ∀ i, i < n → f i = g i) : sN n f = sN n g := by
 induction n with
 | zero => rfl
 | succ n ih => simp only [sN, ih (fun i hi => h i (by omega)), h n (by omega)]
theorem sN_add {n : Nat} {f g : Nat → Nat} : sN n (fun i => f i + g i) = sN n f + sN n g := by
 induction n with
 | zero => rfl
 | succ n ih => simp only [sN, ih]; omega
theorem sN_head {f : Nat → Nat} : ∀ {n : Nat}, sN (n + 1) f = f 0 + sN n (fun i => f (i + 1))
 | 0 => by simp [sN]
 | n + 1 => by
   show sN (n + 1) f + f (n + 1) = _
   rw [sN_head (n := n)]
   simp only [sN]; omega
theorem sN_mono {f : Nat → Nat} {n m : Nat} (h : n ≤ m) : sN n f ≤ sN m f := by
 induction m with
 | zero => obtain rfl : n = 0 := by omega
           exact Nat.le_refl _
 | succ m ih =>
   by_cases e : n = m + 1
   · subst e; exact Nat.le_refl _
   · have := ih (by omega); simp only [sN]; omega
theorem sN_zero {n : Nat} : sN n (fun _ => 0) = 0 := by
 induction n with
 | zero => rfl
 | succ n ih => simp only [sN, ih]
theorem sN_split {f : Nat → Nat} {n : Nat} : ∀ {m : Nat}, sN (n + m) f = sN n f + sN m (fun i => f (n + i))
 | 0 => by simp [sN]
 | m + 1 => by
   show sN (n + m) f + f (n + m) = sN n f + (sN m (fun i => f (n + i)) + f (n + m))
   rw [sN_split (m := m)]; omega
theorem vander (c : Nat) : ∀ b o, sN (o + 1) (fun k => ch b k * ch c (o - k)) = ch (b + c) o
 | 0, o => by
   rw [sN_head, ch_zero, sN_congr (g := fun _ => 0) (fun i _ => by rw [ch_lt (by omega : 0 < i + 1)]; simp), sN_zero]
   simp
 | b + 1, 0 => by simp [sN, ch_zero]
 | b + 1, o + 1 => by
   have h1 := vander c b (o + 1)
   have h2 := vander c b o
   rw [sN_head] at h1 ⊢
   have e : ∀ i, i < o + 1 → ch (b + 1) (i + 1) * ch c (o + 1 - (i + 1)) = ch b i * ch c (o - i) + ch b (i + 1) * ch c (o + 1 - (i + 1)) := fun i _ => by
     rw [ch_ss, Nat.add_mul, show o + 1 - (i + 1) = o - i by omega]
   rw [sN_congr e, sN_add, h2, show b + 1 + c = b + c + 1 by omega, ch_ss, ← h1]
   simp only [ch_zero, Nat.one_mul]
   omega
def fnd (N b o lo hi : Nat) : Nat := sN (hi + 1 - lo) (fun i => ch b (lo + i) * ch (N - b) (o - (lo + i)))
theorem fnd_all {N b o : Nat} (hb : b ≤ N) : fnd N b o 0 o = ch N o := by
 unfold fnd
 rw [Nat.sub_zero, sN_congr (g := fun k => ch b k * ch (N - b) (o - k)) (fun i _ => by rw [Nat.zero_add]), vander, show b + (N - b) = N by omega]
theorem fnd_le {N b o lo hi : Nat} (hb : b ≤ N) (hh : hi ≤ o) : fnd N b o lo hi ≤ ch N o := by
 rw [← fnd_all hb]
 unfold fnd
 by_cases h : lo ≤ hi + 1
 · have e : o + 1 - 0 = lo + (o + 1 - lo) := by omega
   rw [e, sN_split]
   have h1 : sN (hi + 1 - lo) (fun i => ch b (lo + i) * ch (N - b) (o - (lo + i))) ≤ sN (o + 1 - lo) (fun i => ch b (lo + i) * ch (N - b) (o - (lo + i))) := sN_mono (by omega)
   have h2 : sN (o + 1 - lo) (fun i => ch b (0 + (lo + i)) * ch (N - b) (o - (0 + (lo + i)))) = sN (o + 1 - lo) (fun i => ch b (lo + i) * ch (N - b) (o - (lo + i))) := sN_congr fun i _ => by rw [Nat.zero_add]
   omega
 · rw [show hi + 1 - lo = 0 by omega]; exact Nat.zero_le _
end Bm
namespace Bm
def F (N b o a : Nat) : Nat := sN (a + 1) (fun k => ch b k * ch (N - b) (o - k))
theorem fnd_F (N b o a : Nat) : fnd N b o 0 a = F N b o a := by
 unfold fnd F
 rw [Nat.sub_zero]
 exact sN_congr fun i _ => by rw [Nat.zero_add]
theorem F_le {N b o a : Nat} (hb : b ≤ N) (h : a ≤ o) : F N b o a ≤ ch N o := by rw [← fnd_F]; exact fnd_le hb h
theorem F_mono {N b o a a' : Nat} (h : a ≤ a') : F N b o a ≤ F N b o a' := sN_mono (by omega)
end Bm
namespace Bm
theorem F_top {N b a : Nat} (hb : b ≤ N) (ha : a ≤ N) : F N b N a = if b ≤ a then 1 else 0 := by
 split
 · rename_i h
   have h1 := F_le (N := N) (b := b) (o := N) (a := a) hb ha
   rw [ch_self] at h1
   have h2 : F N b N b ≤ F N b N a := F_mono h
   have h3 : ch b b * ch (N - b) (N - b) ≤ F N b N b := by unfold F; show _ ≤ sN b _ + ch b b * ch (N - b) (N - b); omega
   rw [ch_self, ch_self] at h3
   omega
 · rename_i h
   unfold F
   rw [sN_congr (g := fun _ => 0) (fun k hk => by rw [ch_lt (by omega : N - b < N - k)]; simp), sN_zero]
end Bm
namespace Bm
end Bm
namespace Go.Sx
theorem inR (n : Int) : inRange .i64 n ↔ -9223372036854775808 ≤ n ∧ n ≤ 9223372036854775807 := Iff.rfl
theorem exs1 {g : Nat} : (∃ a : Nat, (g : Int) = (a : Int)) ↔ True := ⟨fun ⟨a, e⟩ => by obtain rfl : a = g := (by omega); exact trivial, fun h => ⟨g, by omega⟩⟩
theorem exn1 {g : Nat} : (∃ a : Nat, (g : Int) + 1 = (a : Int)) ↔ True := ⟨fun ⟨a, e⟩ => by obtain rfl : a = g + 1 := (by omega); exact trivial, fun h => ⟨g + 1, by omega⟩⟩
theorem exz1 : (∃ a : Nat, (0 : Int) = (a : Int)) ↔ True := ⟨fun ⟨a, e⟩ => by obtain rfl : a = 0 := (by omega); exact trivial, fun h => ⟨0, by omega⟩⟩
theorem exo1 : (∃ a : Nat, (1 : Int) = (a : Int)) ↔ True := ⟨fun ⟨a, e⟩ => by obtain rfl : a = 1 := (by omega); exact trivial, fun h => ⟨1, by omega⟩⟩
theorem exs2 {p1 : Nat → Prop} {g : Nat} : (∃ a : Nat, p1 a ∧ (g : Int) = (a : Int)) ↔ p1 g := ⟨fun ⟨a, h1, e⟩ => by obtain rfl : a = g := (by omega); exact h1, fun h => ⟨g, h, by omega⟩⟩
theorem exn2 {p1 : Nat → Prop} {g : Nat} : (∃ a : Nat, p1 a ∧ (g : Int) + 1 = (a : Int)) ↔ p1 (g + 1) := ⟨fun ⟨a, h1, e⟩ => by obtain rfl : a = g + 1 := (by omega); exact h1, fun h => ⟨g + 1, h, by omega⟩⟩
theorem exz2 {p1 : Nat → Prop} : (∃ a : Nat, p1 a ∧ (0 : Int) = (a : Int)) ↔ p1 0 := ⟨fun ⟨a, h1, e⟩ => by obtain rfl : a = 0 := (by omega); exact h1, fun h => ⟨0, h, by omega⟩⟩
theorem exo2 {p1 : Nat → Prop} : (∃ a : Nat, p1 a ∧ (1 : Int) = (a : Int)) ↔ p1 1 := ⟨fun ⟨a, h1, e⟩ => by obtain rfl : a = 1 := (by omega); exact h1, fun h => ⟨1, h, by omega⟩⟩
theorem exs3 {p1 p2 : Nat → Prop} {g : Nat} : (∃ a : Nat, p1 a ∧ p2 a ∧ (g : Int) = (a : Int)) ↔ p1 g ∧ p2 g := ⟨fun ⟨a, h1, h2, e⟩ => by obtain rfl : a = g := (by omega); exact ⟨h1, h2⟩, fun h => ⟨g, h.1, h.2, by omega⟩⟩
theorem exn3 {p1 p2 : Nat → Prop} {g : Nat} : (∃ a : Nat, p1 a ∧ p2 a ∧ (g : Int) + 1 = (a : Int)) ↔ p1 (g + 1) ∧ p2 (g + 1) := ⟨fun ⟨a, h1, h2, e⟩ => by obtain rfl : a = g + 1 := (by omega); exact ⟨h1, h2⟩, fun h => ⟨g + 1, h.1, h.2, by omega⟩⟩
theorem exz3 {p1 p2 : Nat → Prop} : (∃ a : Nat, p1 a ∧ p2 a ∧ (0 : Int) = (a : Int)) ↔ p1 0 ∧ p2 0 := ⟨fun ⟨a, h1, h2, e⟩ => by obtain rfl : a = 0 := (by omega); exact ⟨h1, h2⟩, fun h => ⟨0, h.1, h.2, by omega⟩⟩
theorem exo3 {p1 p2 : Nat → Prop} : (∃ a : Nat, p1 a ∧ p2 a ∧ (1 : Int) = (a : Int)) ↔ p1 1 ∧ p2 1 := ⟨fun ⟨a, h1, h2, e⟩ => by obtain rfl : a = 1 := (by omega); exact ⟨h1, h2⟩, fun h => ⟨1, h.1, h.2, by omega⟩⟩
theorem exs4 {p1 p2 p3 : Nat → Prop} {g : Nat} : (∃ a : Nat, p1 a ∧ p2 a ∧ p3 a ∧ (g : Int) = (a : Int)) ↔ p1 g ∧ p2 g ∧ p3 g := ⟨fun ⟨a, h1, h2, h3, e⟩ => by obtain rfl : a = g := (by omega); exact ⟨h1, h2, h3⟩, fun h => ⟨g, h.1, h.2.1, h.2.2, by omega⟩⟩
theorem exn4 {p1 p2 p3 : Nat → Prop} {g : Nat} : (∃ a : Nat, p1 a ∧ p2 a ∧ p3 a ∧ (g : Int) + 1 = (a : Int)) ↔ p1 (g + 1) ∧ p2 (g + 1) ∧ p3 (g + 1) := ⟨fun ⟨a, h1, h2, h3, e⟩ => by obtain rfl : a = g + 1 := (by omega); exact ⟨h1, h2, h3⟩, fun h => ⟨g + 1, h.1, h.2.1, h.2.2, by omega⟩⟩
theorem exz4 {p1 p2 p3 : Nat → Prop} : (∃ a : Nat, p1 a ∧ p2 a ∧ p3 a ∧ (0 : Int) = (a : Int)) ↔ p1 0 ∧ p2 0 ∧ p3 0 := ⟨fun ⟨a, h1, h2, h3, e⟩ => by obtain rfl : a = 0 := (by omega); exact ⟨h1, h2, h3⟩, fun h => ⟨0, h.1, h.2.1, h.2.2, by omega⟩⟩
theorem exo4 {p1 p2 p3 : Nat → Prop} : (∃ a : Nat, p1 a ∧ p2 a ∧ p3 a ∧ (1 : Int) = (a : Int)) ↔ p1 1 ∧ p2 1 ∧ p3 1 := ⟨fun ⟨a, h1, h2, h3, e⟩ => by obtain rfl : a = 1 := (by omega); exact ⟨h1, h2, h3⟩, fun h => ⟨1, h.1, h.2.1, h.2.2, by omega⟩⟩
theorem exs5 {p1 p2 p3 p4 : Nat → Prop} {g : Nat} : (∃ a : Nat, p1 a ∧ p2 a ∧ p3 a ∧ p4 a ∧ (g : Int) = (a : Int)) ↔ p1 g ∧ p2 g ∧ p3 g ∧ p4 g := ⟨fun ⟨a, h1, h2, h3, h4, e⟩ => by obtain rfl : a = g := (by omega); exact ⟨h1, h2, h3, h4⟩, fun h => ⟨g, h.1, h.2.1, h.2.2.1, h.2.2.2, by omega⟩⟩
theorem exn5 {p1 p2 p3 p4 : Nat → Prop} {g : Nat} : (∃ a : Nat, p1 a ∧ p2 a ∧ p3 a ∧ p4 a ∧ (g : Int) + 1 = (a : Int)) ↔ p1 (g + 1) ∧ p2 (g + 1) ∧ p3 (g + 1) ∧ p4 (g + 1) := ⟨fun ⟨a, h1, h2, h3, h4, e⟩ => by obtain rfl : a = g + 1 := (by omega); exact ⟨h1, h2, h3, h4⟩, fun h => ⟨g + 1, h.1, h.2.1, h.2.2.1, h.2.2.2, by omega⟩⟩
theorem exz5 {p1 p2 p3 p4 : Nat → Prop} : (∃ a : Nat, p1 a ∧ p2 a ∧ p3 a ∧ p4 a ∧ (0 : Int) = (a : Int)) ↔ p1 0 ∧ p2 0 ∧ p3 0 ∧ p4 0 := ⟨fun ⟨a, h1, h2, h3, h4, e⟩ => by obtain rfl : a = 0 := (by omega); exact ⟨h1, h2, h3, h4⟩, fun h => ⟨0, h.1, h.2.1, h.2.2.1, h.2.2.2, by omega⟩⟩
theorem exo5 {p1 p2 p3 p4 : Nat → Prop} : (∃ a : Nat, p1 a ∧ p2 a ∧ p3 a ∧ p4 a ∧ (1 : Int) = (a : Int)) ↔ p1 1 ∧ p2 1 ∧ p3 1 ∧ p4 1 := ⟨fun ⟨a, h1, h2, h3, h4, e⟩ => by obtain rfl : a = 1 := (by omega); exact ⟨h1, h2, h3, h4⟩, fun h => ⟨1, h.1, h.2.1, h.2.2.1, h.2.2.2, by omega⟩⟩
theorem exs6 {p1 p2 p3 p4 p5 : Nat → Prop} {g : Nat} : (∃ a : Nat, p1 a ∧ p2 a ∧ p3 a ∧ p4 a ∧ p5 a ∧ (g : Int) = (a : Int)) ↔ p1 g ∧ p2 g ∧ p3 g ∧ p4 g ∧ p5 g := ⟨fun ⟨a, h1, h2, h3, h4, h5, e⟩ => by obtain rfl : a = g := (by omega); exact ⟨h1, h2, h3, h4, h5⟩, fun h => ⟨g, h.1, h.2.1, h.2.2.1, h.2.2.2.1, h.2.2.2.2, by omega⟩⟩
theorem exn6 {p1 p2 p3 p4 p5 : Nat → Prop} {g : Nat} : (∃ a : Nat, p1 a ∧ p2 a ∧ p3 a ∧ p4 a ∧ p5 a ∧ (g : Int) + 1 = (a : Int)) ↔ p1 (g + 1) ∧ p2 (g + 1) ∧ p3 (g + 1) ∧ p4 (g + 1) ∧ p5 (g + 1) := ⟨fun ⟨a, h1, h2, h3, h4, h5, e⟩ => by obtain rfl : a = g + 1 := (by omega); exact ⟨h1, h2, h3, h4, h5⟩, fun h => ⟨g + 1, h.1, h.2.1, h.2.2.1, h.2.2.2.1, h.2.2.2.2, by omega⟩⟩
theorem exz6 {p1 p2 p3 p4 p5 : Nat → Prop} : (∃ a : Nat, p1 a ∧ p2 a ∧ p3 a ∧ p4 a ∧ p5 a ∧ (0 : Int) = (a : Int)) ↔ p1 0 ∧ p2 0 ∧ p3 0 ∧ p4 0 ∧ p5 0 := ⟨fun ⟨a, h1, h2, h3, h4, h5, e⟩ => by obtain rfl : a = 0 := (by omega); exact ⟨h1, h2, h3, h4, h5⟩, fun h => ⟨0, h.1, h.2.1, h.2.2.1, h.2.2.2.1, h.2.2.2.2, by omega⟩⟩
theorem exo6 {p1 p2 p3 p4 p5 : Nat → Prop} : (∃ a : Nat, p1 a ∧ p2 a ∧ p3 a ∧ p4 a ∧ p5 a ∧ (1 : Int) = (a : Int)) ↔ p1 1 ∧ p2 1 ∧ p3 1 ∧ p4 1 ∧ p5 1 := ⟨fun ⟨a, h1, h2, h3, h4, h5, e⟩ => by obtain rfl : a = 1 := (by omega); exact ⟨h1, h2, h3, h4, h5⟩, fun h => ⟨1, h.1, h.2.1, h.2.2.1, h.2.2.2.1, h.2.2.2.2, by omega⟩⟩
theorem exs7 {p1 p2 p3 p4 p5 p6 : Nat → Prop} {g : Nat} : (∃ a : Nat, p1 a ∧ p2 a ∧ p3 a ∧ p4 a ∧ p5 a ∧ p6 a ∧ (g : Int) = (a : Int)) ↔ p1 g ∧ p2 g ∧ p3 g ∧ p4 g ∧ p5 g ∧ p6 g := ⟨fun ⟨a, h1, h2, h3, h4, h5, h6, e⟩ => by obtain rfl : a = g := (by omega); exact ⟨h1, h2, h3, h4, h5, h6⟩, fun h => ⟨g, h.1, h.2.1, h.2.2.1, h.2.2.2.1, h.2.2.2.2.1, h.2.2.2.2.2, by omega⟩⟩
theorem exn7 {p1 p2 p3 p4 p5 p6 : Nat → Prop} {g : Nat} : (∃ a : Nat, p1 a ∧ p2 a ∧ p3 a ∧ p4 a ∧ p5 a ∧ p6 a ∧ (g : Int) + 1 = (a : Int)) ↔ p1 (g + 1) ∧ p2 (g + 1) ∧ p3 (g + 1) ∧ p4 (g + 1) ∧ p5 (g + 1) ∧ p6 (g + 1) := ⟨fun ⟨a, h1, h2, h3, h4, h5, h6, e⟩ => by obtain rfl : a = g + 1 := (by omega); exact ⟨h1, h2, h3, h4, h5, h6⟩, fun h => ⟨g + 1, h.1, h.2.1, h.2.2.1, h.2.2.2.1, h.2.2.2.2.1, h.2.2.2.2.2, by omega⟩⟩
theorem exz7 {p1 p2 p3 p4 p5 p6 : Nat → Prop} : (∃ a : Nat, p1 a ∧ p2 a ∧ p3 a ∧ p4 a ∧ p5 a ∧ p6 a ∧ (0 : Int) = (a : Int)) ↔ p1 0 ∧ p2 0 ∧ p3 0 ∧ p4 0 ∧ p5 0 ∧ p6 0 := ⟨fun ⟨a, h1, h2, h3, h4, h5, h6, e⟩ => by obtain rfl : a = 0 := (by omega); exact ⟨h1, h2, h3, h4, h5, h6⟩, fun h => ⟨0, h.1, h.2.1, h.2.2.1, h.2.2.2.1, h.2.2.2.2.1, h.2.2.2.2.2, by omega⟩⟩
theorem exo7 {p1 p2 p3 p4 p5 p6 : Nat → Prop} : (∃ a : Nat, p1 a ∧ p2 a ∧ p3 a ∧ p4 a ∧ p5 a ∧ p6 a ∧ (1 : Int) = (a : Int)) ↔ p1 1 ∧ p2 1 ∧ p3 1 ∧ p4 1 ∧ p5 1 ∧ p6 1 := ⟨fun ⟨a, h1, h2, h3, h4, h5, h6, e⟩ => by obtain rfl : a = 1 := (by omega); exact ⟨h1, h2, h3, h4, h5, h6⟩, fun h => ⟨1, h.1, h.2.1, h.2.2.1, h.2.2.2.1, h.2.2.2.2.1, h.2.2.2.2.2, by omega⟩⟩
theorem exs8 {p1 p2 p3 p4 p5 p6 p7 : Nat → Prop} {g : Nat} : (∃ a : Nat, p1 a ∧ p2 a ∧ p3 a ∧ p4 a ∧ p5 a ∧ p6 a ∧ p7 a ∧ (g : Int) = (a : Int)) ↔ p1 g ∧ p2 g ∧ p3 g ∧ p4 g ∧ p5 g ∧ p6 g ∧ p7 g := ⟨fun ⟨a, h1, h2, h3, h4, h5, h6, h7, e⟩ => by obtain rfl : a = g := (by omega); exact ⟨h1, h2, h3, h4, h5, h6, h7⟩, fun h => ⟨g, h.1, h.2.1, h.2.2.1, h.2.2.2.1, h.2.2.2.2.1, h.2.2.2.2.2.1, h.2.2.2.2.2.2, by omega⟩⟩
theorem exn8 {p1 p2 p3 p4 p5 p6 p7 : Nat → Prop} {g : Nat} : (∃ a : Nat, p1 a ∧ p2 a ∧ p3 a ∧ p4 a ∧ p5 a ∧ p6 a ∧ p7 a ∧ (g : Int) + 1 = (a : Int)) ↔ p1 (g + 1) ∧ p2 (g + 1) ∧ p3 (g + 1) ∧ p4 (g + 1) ∧ p5 (g + 1) ∧ p6 (g + 1) ∧ p7 (g + 1) := ⟨fun ⟨a, h1, h2, h3, h4, h5, h6, h7, e⟩ => by obtain rfl : a = g + 1 := (by omega); exact ⟨h1, h2, h3, h4, h5, h6, h7⟩, fun h => ⟨g + 1, h.1, h.2.1, h.2.2.1, h.2.2.2.1, h.2.2.2.2.1, h.2.2.2.2.2.1, h.2.2.2.2.2.2, by omega⟩⟩
theorem exz8 {p1 p2 p3 p4 p5 p6 p7 : Nat → Prop} : (∃ a : Nat, p1 a ∧ p2 a ∧ p3 a ∧ p4 a ∧ p5 a ∧ p6 a ∧ p7 a ∧ (0 : Int) = (a : Int)) ↔ p1 0 ∧ p2 0 ∧ p3 0 ∧ p4 0 ∧ p5 0 ∧ p6 0 ∧ p7 0 := ⟨fun ⟨a, h1, h2, h3, h4, h5, h6, h7, e⟩ => by obtain rfl : a = 0 := (by omega); exact ⟨h1, h2, h3, h4, h5, h6, h7⟩, fun h => ⟨0, h.1, h.2.1, h.2.2.1, h.2.2.2.1, h.2.2.2.2.1, h.2.2.2.2.2.1, h.2.2.2.2.2.2, by omega⟩⟩
theorem exo8 {p1 p2 p3 p4 p5 p6 p7 : Nat → Prop} : (∃ a : Nat, p1 a ∧ p2 a ∧ p3 a ∧ p4 a ∧ p5 a ∧ p6 a ∧ p7 a ∧ (1 : Int) = (a : Int)) ↔ p1 1 ∧ p2 1 ∧ p3 1 ∧ p4 1 ∧ p5 1 ∧ p6 1 ∧ p7 1 := ⟨fun ⟨a, h1, h2, h3, h4, h5, h6, h7, e⟩ => by obtain rfl : a = 1 := (by omega); exact ⟨h1, h2, h3, h4, h5, h6, h7⟩, fun h => ⟨1, h.1, h.2.1, h.2.2.1, h.2.2.2.1, h.2.2.2.2.1, h.2.2.2.2.2.1, h.2.2.2.2.2.2, by omega⟩⟩
theorem exs9 {p1 p2 p3 p4 p5 p6 p7 p8 : Nat → Prop} {g : Nat} : (∃ a : Nat, p1 a ∧ p2 a ∧ p3 a ∧ p4 a ∧ p5 a ∧ p6 a ∧ p7 a ∧ p8 a ∧ (g : Int) = (a : Int)) ↔ p1 g ∧ p2 g ∧ p3 g ∧ p4 g ∧ p5 g ∧ p6 g ∧ p7 g ∧ p8 g := ⟨fun ⟨a, h1, h2, h3, h4, h5, h6, h7, h8, e⟩ => by obtain rfl : a = g := (by omega); exact ⟨h1, h2, h3, h4, h5, h6, h7, h8⟩, fun h => ⟨g, h.1, h.2.1, h.2.2.1, h.2.2.2.1, h.2.2.2.2.1, h.2.2.2.2.2.1, h.2.2.2.2.2.2.1, h.2.2.2.2.2.2.2, by omega⟩⟩
theorem exn9 {p1 p2 p3 p4 p5 p6 p7 p8 : Nat → Prop} {g : Nat} : (∃ a : Nat, p1 a ∧ p2 a ∧ p3 a ∧ p4 a ∧ p5 a ∧ p6 a ∧ p7 a ∧ p8 a ∧ (g : Int) + 1 = (a : Int)) ↔ p1 (g + 1) ∧ p2 (g + 1) ∧ p3 (g + 1) ∧ p4 (g + 1) ∧ p5 (g + 1) ∧ p6 (g + 1) ∧ p7 (g + 1) ∧ p8 (g + 1) := ⟨fun ⟨a, h1, h2, h3, h4, h5, h6, h7, h8, e⟩ => by obtain rfl : a = g + 1 := (by omega); exact ⟨h1, h2, h3, h4, h5, h6, h7, h8⟩, fun h => ⟨g + 1, h.1, h.2.1, h.2.2.1, h.2.2.2.1, h.2.2.2.2.1, h.2.2.2.2.2.1, h.2.2.2.2.2.2.1, h.2.2.2.2.2.2.2, by omega⟩⟩
theorem exz9 {p1 p2 p3 p4 p5 p6 p7 p8 : Nat → Prop} : (∃ a : Nat, p1 a ∧ p2 a ∧ p3 a ∧ p4 a ∧ p5 a ∧ p6 a ∧ p7 a ∧ p8 a ∧ (0 : Int) = (a : Int)) ↔ p1 0 ∧ p2 0 ∧ p3 0 ∧ p4 0 ∧ p5 0 ∧ p6 0 ∧ p7 0 ∧ p8 0 := ⟨fun ⟨a, h1, h2, h3, h4, h5, h6, h7, h8, e⟩ => by obtain rfl : a = 0 := (by omega); exact ⟨h1, h2, h3, h4, h5, h6, h7, h8⟩, fun h => ⟨0, h.1, h.2.1, h.2.2.1, h.2.2.2.1, h.2.2.2.2.1, h.2.2.2.2.2.1, h.2.2.2.2.2.2.1, h.2.2.2.2.2.2.2, by omega⟩⟩
theorem exo9 {p1 p2 p3 p4 p5 p6 p7 p8 : Nat → Prop} : (∃ a : Nat, p1 a ∧ p2 a ∧ p3 a ∧ p4 a ∧ p5 a ∧ p6 a ∧ p7 a ∧ p8 a ∧ (1 : Int) = (a : Int)) ↔ p1 1 ∧ p2 1 ∧ p3 1 ∧ p4 1 ∧ p5 1 ∧ p6 1 ∧ p7 1 ∧ p8 1 := ⟨fun ⟨a, h1, h2, h3, h4, h5, h6, h7, h8, e⟩ => by obtain rfl : a = 1 := (by omega); exact ⟨h1, h2, h3, h4, h5, h6, h7, h8⟩, fun h => ⟨1, h.1, h.2.1, h.2.2.1, h.2.2.2.1, h.2.2.2.2.1, h.2.2.2.2.2.1, h.2.2.2.2.2.2.1, h.2.2.2.2.2.2.2, by omega⟩⟩
theorem exhs {P : Nat → Prop} {g : Nat} : (∃ a : Nat, (g : Int) = (a : Int) ∧ P a) ↔ P g := ⟨fun ⟨a, e, h⟩ => by obtain rfl : a = g := (by omega); exact h, fun h => ⟨g, by omega, h⟩⟩
theorem exhn {P : Nat → Prop} {g : Nat} : (∃ a : Nat, (g : Int) + 1 = (a : Int) ∧ P a) ↔ P (g + 1) := ⟨fun ⟨a, e, h⟩ => by obtain rfl : a = g + 1 := (by omega); exact h, fun h => ⟨g + 1, by omega, h⟩⟩
theorem exhz {P : Nat → Prop} : (∃ a : Nat, (0 : Int) = (a : Int) ∧ P a) ↔ P 0 := ⟨fun ⟨a, e, h⟩ => by obtain rfl : a = 0 := (by omega); exact h, fun h => ⟨0, by omega, h⟩⟩
theorem exho {P : Nat → Prop} : (∃ a : Nat, (1 : Int) = (a : Int) ∧ P a) ↔ P 1 := ⟨fun ⟨a, e, h⟩ => by obtain rfl : a = 1 := (by omega); exact h, fun h => ⟨1, by omega, h⟩⟩
section
variable {α : Sort _} {p q r s t u v : α → Prop} {a' : α}
theorem ex1 : (∃ a, a = a') ↔ True := ⟨fun _ => trivial, fun _ => ⟨a', rfl⟩⟩
theorem ex2 : (∃ a, p a ∧ a = a') ↔ p a' := ⟨fun ⟨_, h, e⟩ => e ▸ h, fun h => ⟨a', h, rfl⟩⟩
theorem ex3 : (∃ a, p a ∧ q a ∧ a = a') ↔ p a' ∧ q a' := ⟨fun ⟨_, h, h2, e⟩ => e ▸ ⟨h, h2⟩, fun ⟨h, h2⟩ => ⟨a', h, h2, rfl⟩⟩
theorem ex4 : (∃ a, p a ∧ q a ∧ r a ∧ a = a') ↔ p a' ∧ q a' ∧ r a' := ⟨fun ⟨_, h, h2, h3, e⟩ => e ▸ ⟨h, h2, h3⟩, fun ⟨h, h2, h3⟩ => ⟨a', h, h2, h3, rfl⟩⟩
theorem ex5 : (∃ a, p a ∧ q a ∧ r a ∧ s a ∧ a = a') ↔ p a' ∧ q a' ∧ r a' ∧ s a' := ⟨fun ⟨_, h, h2, h3, h4, e⟩ => e ▸ ⟨h, h2, h3, h4⟩, fun ⟨h, h2, h3, h4⟩ => ⟨a', h, h2, h3, h4, rfl⟩⟩
end
theorem loopN {n : Nat} {A B : Nat → Prop} : (∀ g : Nat, g ≤ n → ((g : Int) < (n : Int) → A g) ∧ (¬ (g : Int) < (n : Int) → B g)) ↔ (∀ g, g < n → A g) ∧ B n :=
 ⟨fun h => ⟨fun g hg => (h g (by omega)).1 (by omega), (h n (by omega)).2 (by omega)⟩, fun h g hg => ⟨fun hl => h.1 g (by omega), fun hl => by obtain rfl : g = n := (by omega); exact h.2⟩⟩
theorem loopM {n : Nat} {M A B : Nat → Prop} : (∀ g : Nat, g ≤ n ∧ M g → ((g : Int) < (n : Int) → A g) ∧ (¬ (g : Int) < (n : Int) → B g)) ↔ (∀ g, g < n → M g → A g) ∧ (M n → B n) :=
 ⟨fun h => ⟨fun g hg hm => (h g ⟨by omega, hm⟩).1 (by omega), fun hm => (h n ⟨by omega, hm⟩).2 (by omega)⟩, fun h g hg => ⟨fun hl => h.1 g (by omega) hg.2, fun hl => by obtain rfl : g = n := (by omega); exact h.2 hg.2⟩⟩
theorem beqI {a b : Int} : (a == b) = decide (a = b) := rfl
theorem bneI {a b : Int} : (a != b) = decide (a ≠ b) := by by_cases h : a = b <;> simp [h]
theorem fas {g : Nat} {P : Nat → Prop} : (∀ a : Nat, (g : Int) = (a : Int) → P a) ↔ P g := ⟨fun h => h g rfl, fun h a e => by obtain rfl : g = a := (by omega); exact h⟩
theorem fas2 {β : Type} {g : Nat} {P : Nat → β → Prop} {Q : Nat → β → Prop} : (∀ (a : Nat) (b : β), (g : Int) = (a : Int) ∧ P a b → Q a b) ↔ ∀ b, P g b → Q g b := ⟨fun h b hp => h g b ⟨rfl, hp⟩, fun h a b ⟨e, hp⟩ => by obtain rfl : g = a := (by omega); exact h b hp⟩
theorem fa2 {α β : Type} {g : α} {P : α → β → Prop} {Q : α → β → Prop} : (∀ a b, a = g ∧ P a b → Q a b) ↔ ∀ b, P g b → Q g b := ⟨fun h b hp => h g b ⟨rfl, hp⟩, fun h a b ⟨e, hp⟩ => by subst e; exact h b hp⟩
theorem dup1 {c X Y : Prop} : (c → (c → X) ∧ (¬c → Y)) ↔ (c → X) := ⟨fun h hc => (h hc).1 hc, fun h hc => ⟨h, fun n => absurd hc n⟩⟩
theorem dup2 {c X Y : Prop} : (¬c → (c → X) ∧ (¬c → Y)) ↔ (¬c → Y) := ⟨fun h hc => (h hc).2 hc, fun h hc => ⟨fun c => absurd c hc, h⟩⟩
theorem dup3 {b : Bool} {X Y : Prop} : (b = true → (b = true → X) ∧ (b = false → Y)) ↔ (b = true → X) := ⟨fun h hc => (h hc).1 hc, fun h hc => ⟨h, fun n => by (rw [hc] at n; cases n)⟩⟩
theorem dup4 {b : Bool} {X Y : Prop} : (b = false → (b = true → X) ∧ (b = false → Y)) ↔ (b = false → Y) := ⟨fun h hc => (h hc).2 hc, fun h hc => ⟨fun n => by (rw [hc] at n; cases n), h⟩⟩
end Go.Sx
namespace Go.Sx
def osN (v : AV) : Nat := match v with | .t (.c (.os n _ _)) => n | .t (.c (.ptr n _)) => n | .t (.c (.mp n)) => n | _ => 0
end Go.Sx
namespace Go.Sx
abbrev exA := And.intro @exs1 <| And.intro @exn1 <| And.intro @exz1 <| And.intro @exo1 <| And.intro @exs2 <| And.intro @exn2 <| And.intro @exz2 <| And.intro @exo2 <| And.intro @exs3 <| And.intro @exn3 <| And.intro @exz3 <| And.intro @exo3 <| And.intro @exs4 <| And.intro @exn4 <| And.intro @exz4 <| And.intro @exo4 <| And.intro @exs5 <| And.intro @exn5 <| And.intro @exz5 <| And.intro @exo5 <| And.intro @exs6 <| And.intro @exn6 <| And.intro @exz6 <| And.intro @exo6 <| And.intro @exs7 <| And.intro @exn7 <| And.intro @exz7 <| And.intro @exo7 <| And.intro @exs8 <| And.intro @exn8 <| And.intro @exz8 <| And.intro @exo8 <| And.intro @exs9 <| And.intro @exn9 <| And.intro @exz9 <| @exo9
end Go.Sx
namespace Bm
open Go Go.Sx
def intC (n : Int) : TV := .c (.int .i64 n)
def isM (v : AV) (n : Nat) : Prop := match v with | .t (.c (.int _ m)) => m = n | _ => False
def allB : Nat → (Nat → Bool) → Bool
 | 0, _ => true
 | n + 1, p => allB n p && p n
theorem allB_iff {n : Nat} {p : Nat → Bool} : allB n p = true ↔ ∀ i, i < n → p i = true := by
 induction n with
 | zero => simp [allB]
 | succ n ih =>
   simp only [allB, Bool.and_eq_true, ih]
   constructor
   · rintro ⟨h1, h2⟩ i hi
     by_cases e : i = n
     · subst e; exact h2
     · exact h1 i (by omega)
   · exact fun h => ⟨fun i hi => h i (by omega), h n (by omega)⟩
theorem allB_not {n i : Nat} {p : Nat → Bool} (hi : i < n) (h : p i = false) : allB n p = false := by
 cases e : allB n p with
 | false => rfl
 | true => rw [allB_iff.1 e i hi] at h; cases h
def fst (p : Nat → Bool) : Nat → Nat
 | 0 => 0
 | n + 1 => if fst p n < n then fst p n else if p n then n else n + 1
theorem fst_le {p : Nat → Bool} : ∀ n, fst p n ≤ n
 | 0 => Nat.le_refl _
 | n + 1 => by
   have := fst_le (p := p) n
   unfold fst
   split
   · omega
   · split <;> omega
theorem fst_before {p : Nat → Bool} : ∀ {n i : Nat}, i < fst p n → p i = false
 | 0, i, h => absurd h (Nat.not_lt_zero i)
 | n + 1, i, h => by
   unfold fst at h
   have hle := fst_le (p := p) n
   split at h
   · exact fst_before h
   · rename_i h1
     have e : fst p n = n := by omega
     split at h
     · exact fst_before (n := n) (by omega)
     · rename_i h2
       by_cases hi : i = n
       · subst hi; simpa using h2
       · exact fst_before (n := n) (by omega)
theorem fst_at {p : Nat → Bool} : ∀ {n : Nat}, fst p n < n → p (fst p n) = true
 | 0, h => absurd h (Nat.not_lt_zero _)
 | n + 1, h => by
   have hle := fst_le (p := p) n
   unfold fst at h ⊢
   split
   · rename_i h1; exact fst_at h1
   · rename_i h1
     rw [if_neg h1] at h
     split
     · rename_i h2; exact h2
     · rename_i h2
       rw [if_neg h2] at h
       omega
theorem fst_of {p : Nat → Bool} {n i : Nat} (hi : i < n) (hp : p i = true) (hb : ∀ j, j < i → p j = false) : fst p n = i := by
 have h1 : ¬ i < fst p n := fun h => by rw [fst_before h] at hp; cases hp
 by_cases h2 : fst p n < i
 · have h3 := fst_at (p := p) (n := n) (by omega)
   rw [hb _ h2] at h3; cases h3
 · omega
theorem fst_none {p : Nat → Bool} {n : Nat} (hb : ∀ j, j < n → p j = false) : fst p n = n := by
 have h1 := fst_le (p := p) n
 by_cases h2 : fst p n < n
 · have h3 := fst_at h2
   rw [hb _ h2] at h3; cases h3
 · omega
def within (n lo hi : Int) : Bool := decide (lo ≤ n) && decide (n ≤ hi)
theorem within_iff {n lo hi : Int} : within n lo hi = true ↔ lo ≤ n ∧ n ≤ hi := by simp [within]
def spanOk (m : Nat → Int) (q : Nat) : Bool := decide (0 ≤ m (q * 2)) && decide (m (q * 2) ≤ m (q * 2 + 1)) && decide (m (q * 2 + 1) ≤ 1000)
def markOk (m : Nat → Int) : Bool := allB 4 (spanOk m)
def marksOk (n : Nat) (m : Nat → Nat → Int) : Bool := within n 1 5 && allB n (fun i => markOk (m i))
def barOk (b : Nat → Int) : Bool := allB 4 (fun q => within (b q) 0 1000)
def reach (m b : Nat → Int) : Bool := allB 4 (fun q => within (b q) (m (q * 2)) (m (q * 2 + 1)))
def gradeI (n : Nat) (m : Nat → Nat → Int) (b : Nat → Int) : Nat := fst (fun i => reach (m i) b) n
def gradeE (n : Nat) (m : Nat → Nat → Int) (b : Nat → Int) : Int := if marksOk n m then (if barOk b then (if gradeI n m b < n then 0 else 4) else 73) else 70
def gradeN (n : Nat) (m : Nat → Nat → Int) (b : Nat → Int) : Int := if gradeE n m b = 0 then gradeI n m b else 0
def marksCV (n : Nat) (m : Nat → Nat → Int) : CV := .vs 8 n (fun i j => .int .i64 (m i j))
def barsCV (n : Nat) (b : Nat → Nat → Int) : CV := .vs 4 n (fun i j => .int .i64 (b i j))
def arrTV (n : Nat) (b : Nat → Int) : TV := .a n (fun j => .int .i64 (b j))
def twoTV (a b : Int) : TV := .a 2 (fun j => .int .i64 (if j = 0 then a else b))
def cI (n k : Int) : Int := if 0 ≤ k then ch n.toNat k.toNat else 0
theorem cI_nat (n k : Nat) : cI n k = ch n k := by
 unfold cI
 rw [if_pos (by omega)]
 simp
theorem cI_neg {n k : Int} (h : k < 0) : cI n k = 0 := if_neg (by omega)
theorem cI_zero {n : Int} : cI n 0 = 1 := by unfold cI; rw [if_pos (by omega)]; simp [ch_zero]
theorem cI_self {n : Int} (h : 0 ≤ n) : cI n n = 1 := by unfold cI; rw [if_pos h, ch_self]; rfl
theorem cI_big {n k : Int} (h0 : 0 ≤ n) (h : n < k) : cI n k = 0 := by
 unfold cI
 rw [if_pos (by omega), ch_lt (by omega)]; rfl
theorem cI_step {n k : Int} (h0 : 0 < k) (h : k < n) : cI n k = cI (n - 1) k + cI (n - 1) (k - 1) := by
 obtain ⟨a, rfl⟩ : ∃ a : Nat, n = ((a + 1 : Nat) : Int) := ⟨(n - 1).toNat, by omega⟩
 obtain ⟨b, rfl⟩ : ∃ b : Nat, k = ((b + 1 : Nat) : Int) := ⟨(k - 1).toNat, by omega⟩
 rw [show ((a + 1 : Nat) : Int) - 1 = (a : Int) by omega, show ((b + 1 : Nat) : Int) - 1 = (b : Int) by omega, cI_nat, cI_nat, cI_nat, ch_ss]
 omega
theorem cI_bd {n k : Int} (h : n ≤ 40) : 0 ≤ cI n k ∧ cI n k ≤ 1099511627776 := by
 unfold cI
 split
 · have := ch_le (n := n.toNat) (k := k.toNat) (by omega)
   omega
 · omega
def Inv (ks : List Int) (x : Int) : Prop := x = cI (ks.getD 0 0) (ks.getD 1 0)
def oddsOk (o i : Int) : Bool := within i 1 1000 && within o 0 i
def planOk (N o a : Int) : Bool := within o 0 N && within a 0 o
def ruleOk (N : Int) (r : Nat → Int) : Bool := decide (0 ≤ r 0) && decide (r 0 < r 3) && decide (r 3 ≤ N) && oddsOk (r 1) (r 2) && oddsOk (r 4) (r 5)
def keep1 (N o a : Nat) (r : Nat → Int) (b : Nat) : Bool :=
 !((decide ((b : Int) ≤ r 0) && decide ((F N b o a : Int) * r 2 < r 1 * ch N o)) || (decide (r 3 ≤ b) && decide ((F N b o a : Int) * r 5 > r 4 * ch N o)))
def keeps (N o a : Nat) (r : Nat → Int) : Bool := allB (N + 1) (keep1 N o a r)
end Bm
namespace Bm
open Go Go.Sx
def oddsE (N b o a : Int) : Int := if (within N 1 40 && within b 0 N) then (if planOk N o a then 0 else 72) else 7
def oF (N b o a : Int) : Nat := F N.toNat b.toNat o.toNat a.toNat
def oC (N o : Int) : Nat := ch N.toNat o.toNat
def oddsOf (N b o a : Int) : Int := if oddsE N b o a = 0 then ((oF N b o a / Nat.gcd (oF N b o a) (oC N o) : Nat) : Int) else 0
def oddsIn (N b o a : Int) : Int := if oddsE N b o a = 0 then ((oC N o / Nat.gcd (oF N b o a) (oC N o) : Nat) : Int) else 0
end Bm
namespace Bm
theorem tdiv_nat (a b : Nat) : (a : Int).tdiv (b : Int) = ((a / b : Nat) : Int) := rfl
theorem tmod_nat (a b : Nat) : (a : Int).tmod (b : Int) = ((a % b : Nat) : Int) := rfl
theorem gcd_step (x y : Nat) : Nat.gcd y (x % y) = Nat.gcd x y := by rw [Nat.gcd_comm y, ← Nat.gcd_rec, Nat.gcd_comm]
end Bm
namespace Bm
theorem prod_bd {a b : Int} (h1 : 0 ≤ a) (h2 : a ≤ 1099511627776) (h3 : 0 ≤ b) (h4 : b ≤ 1000) : 0 ≤ a * b ∧ a * b ≤ 1099511627776000 := by
 refine ⟨Int.mul_nonneg h1 h3, ?_⟩
 have := Int.mul_le_mul h2 h4 h3 (by omega : (0 : Int) ≤ 1099511627776)
 omega
theorem rule_bd {N : Int} {r : Nat → Int} (h : ruleOk N r = true) : 0 ≤ r 0 ∧ r 0 < r 3 ∧ r 3 ≤ N ∧ (1 ≤ r 2 ∧ r 2 ≤ 1000 ∧ 0 ≤ r 1 ∧ r 1 ≤ r 2) ∧ (1 ≤ r 5 ∧ r 5 ≤ 1000 ∧ 0 ≤ r 4 ∧ r 4 ≤ r 5) := by
 simp only [ruleOk, oddsOk, Bool.and_eq_true, decide_eq_true_eq, within_iff] at h
 omega
def Brk (r : Nat → Int) (b X Y : Int) : Prop := (b ≤ r 0 ∧ X * r 2 < r 1 * Y) ∨ (r 3 ≤ b ∧ r 4 * Y < X * r 5)
theorem keep1_iff {N o a : Nat} {r : Nat → Int} {b : Nat} : keep1 N o a r b = true ↔ ¬ Brk r b (F N b o a) (ch N o) := by
 unfold keep1 Brk
 simp only [Bool.not_eq_true', Bool.or_eq_false_iff, Bool.and_eq_false_iff, decide_eq_false_iff_not, gt_iff_lt]
 constructor
 · rintro ⟨h1, h2⟩ (h | h)
   · rcases h1 with h1 | h1
     · exact h1 h.1
     · exact h1 h.2
   · rcases h2 with h2 | h2
     · exact h2 h.1
     · exact h2 h.2
 · intro h
   refine ⟨?_, ?_⟩
   · by_cases e : (b : Int) ≤ r 0
     · exact .inr fun h' => h (.inl ⟨e, h'⟩)
     · exact .inl e
   · by_cases e : r 3 ≤ (b : Int)
     · exact .inr fun h' => h (.inr ⟨e, h'⟩)
     · exact .inl e
theorem keeps_not {N o a : Nat} {r : Nat → Int} {b : Nat} (hb : b ≤ N) (h : Brk r b (F N b o a) (ch N o)) : keeps N o a r = false := by
 refine allB_not (i := b) (by omega) ?_
 cases e : keep1 N o a r b with
 | false => rfl
 | true => exact absurd h (keep1_iff.1 e)
theorem keeps_step {N o a : Nat} {r : Nat → Int} {b : Nat} (h0 : allB b (keep1 N o a r) = true) (h : ¬ Brk r b (F N b o a) (ch N o)) : allB (b + 1) (keep1 N o a r) = true := by
 simp only [allB, h0, Bool.true_and]
 exact keep1_iff.2 h
theorem odds_bad7 {N b o a : Int} (h : ¬ (within N 1 40 && within b 0 N) = true) : oddsOf N b o a = 0 ∧ oddsIn N b o a = 0 ∧ oddsE N b o a = 7 := by
 have e : oddsE N b o a = 7 := if_neg h
 exact ⟨if_neg (by rw [e]; omega), if_neg (by rw [e]; omega), e⟩
theorem odds_bad72 {N b o a : Int} (h1 : (within N 1 40 && within b 0 N) = true) (h : ¬ planOk N o a = true) : oddsOf N b o a = 0 ∧ oddsIn N b o a = 0 ∧ oddsE N b o a = 72 := by
 have e : oddsE N b o a = 72 := by unfold oddsE; rw [if_pos h1, if_neg h]
 exact ⟨if_neg (by rw [e]; omega), if_neg (by rw [e]; omega), e⟩
theorem odds_good {N b o a : Nat} (h1 : (within N 1 40 && within b 0 N) = true) (h : planOk N o a = true) : oddsOf N b o a = ((F N b o a / Nat.gcd (F N b o a) (ch N o) : Nat) : Int) ∧ oddsIn N b o a = ((ch N o / Nat.gcd (F N b o a) (ch N o) : Nat) : Int) ∧ oddsE N b o a = 0 := by
 have e : oddsE N b o a = 0 := by unfold oddsE; rw [if_pos h1, if_pos h]
 exact ⟨if_pos e, if_pos e, e⟩
end Bm
namespace Bm
open Go Go.Sx
theorem keeps_top {N : Nat} {r : Nat → Int} (h : ruleOk N r = true) : keeps N N (r 0).toNat r = true := by
 obtain ⟨h1, h2, h3, h4, h5⟩ := rule_bd h
 refine allB_iff.2 fun b hb => keep1_iff.2 ?_
 rw [F_top (by omega) (by omega), ch_self]
 rintro (⟨k1, k2⟩ | ⟨k1, k2⟩)
 · rw [if_pos (by omega)] at k2; omega
 · rw [if_neg (by omega)] at k2; omega
def ruledE (N : Int) (r : Nat → Int) : Int := if within N 1 40 then (if ruleOk N r then 0 else 71) else 7
def keepsE (N : Int) (r : Nat → Int) (o a : Int) : Int := if ruledE N r = 0 then (if planOk N o a then 0 else 72) else ruledE N r
def keepsB (N : Int) (r : Nat → Int) (o a : Int) : Bool := decide (keepsE N r o a = 0) && keeps N.toNat o.toNat a.toNat r
theorem ruled_7 {N : Int} {r : Nat → Int} (h : ¬ within N 1 40 = true) : ruledE N r = 7 := if_neg h
theorem ruled_71 {N : Int} {r : Nat → Int} (h0 : within N 1 40 = true) (h : ¬ ruleOk N r = true) : ruledE N r = 71 := by unfold ruledE; rw [if_pos h0, if_neg h]
theorem ruled_0 {N : Int} {r : Nat → Int} (h0 : within N 1 40 = true) (h : ruleOk N r = true) : ruledE N r = 0 := by unfold ruledE; rw [if_pos h0, if_pos h]
theorem kE_bad {N : Int} {r : Nat → Int} {o a : Int} (h : ruledE N r ≠ 0) : keepsE N r o a = ruledE N r ∧ keepsB N r o a = false := by
 have e : keepsE N r o a = ruledE N r := if_neg h
 exact ⟨e, by unfold keepsB; rw [e]; simp [h]⟩
theorem kE_72 {N : Int} {r : Nat → Int} {o a : Int} (h : ruledE N r = 0) (h2 : ¬ planOk N o a = true) : keepsE N r o a = 72 ∧ keepsB N r o a = false := by
 have e : keepsE N r o a = 72 := by unfold keepsE; rw [if_pos h, if_neg h2]
 exact ⟨e, by unfold keepsB; rw [e]; simp⟩
theorem kE_0 {N o a : Nat} {r : Nat → Int} (h : ruledE N r = 0) (h2 : planOk N o a = true) : keepsE N r o a = 0 ∧ keepsB N r o a = keeps N o a r := by
 have e : keepsE N r o a = 0 := by unfold keepsE; rw [if_pos h, if_pos h2]
 exact ⟨e, by unfold keepsB; rw [e]; simp⟩
end Bm
